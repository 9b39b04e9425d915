/- Plain law: exchanging two rows of a square along a cycle of columns gives a square. No condition beyond those stated. -/
import Derived.Test.YtcnjlkabdfcjdaaZAF
import Derived.Test.YtcnjlkabdfcjdaaZAG
set_option linter.unusedVariables false
set_option linter.unusedSimpArgs false
namespace Go.Proofs.Ytcnjlkabdfcjdaa
open Go.RowKit

section
variable {a : List (List Int)} {x z : Nat}
/-- the other one of two rows -/
def swp (x z i : Nat) : Nat := if i = x then z else if i = z then x else i
theorem swp_x : swp x z x = z := by simp [swp]
theorem swp_z : swp x z z = x := by unfold swp; split <;> simp_all
theorem swp_swp (i : Nat) : swp x z (swp x z i) = i := by
  unfold swp
  by_cases h1 : i = x
  · subst h1; simp
  · by_cases h2 : i = z
    · subst h2; simp [h1]
    · simp [h1, h2]
theorem swp_lt {n i : Nat} (hx : x < n) (hz : z < n) (hi : i < n) : swp x z i < n := by unfold swp; split; exact hz; split; exact hx; exact hi
/-- a place of the rows, some columns of two rows exchanged -/
def swN (a : List (List Int)) (x z : Nat) (S : List Nat) (i c : Nat) : Int := if S.contains c then nth (row a (swp x z i)) c else nth (row a i) c
def swS (a : List (List Int)) (x z : Nat) (S : List Nat) : List (List Int) := (List.range a.length).map fun i => (List.range a.length).map fun c => swN a x z S i c
theorem swS_len (S : List Nat) : (swS a x z S).length = a.length := by simp [swS]
theorem swS_row {S : List Nat} {i : Nat} (hi : i < a.length) : row (swS a x z S) i = (List.range a.length).map fun c => swN a x z S i c := by
  rw [row_get (by rw [swS_len]; exact hi)]
  simp [swS]
theorem swS_rlen {S : List Nat} {i : Nat} (hi : i < a.length) : (row (swS a x z S) i).length = a.length := by rw [swS_row hi]; simp
theorem swS_nth {S : List Nat} {i c : Nat} (hi : i < a.length) (hc : c < a.length) : nth (row (swS a x z S) i) c = swN a x z S i c := by
  rw [swS_row hi, nth_get (by simpa using hc)]
  simp
theorem rows_ext {l m : List (List Int)} (hl : l.length = m.length) (h : ∀ k, k < l.length → row l k = row m k) : l = m := by
  refine List.ext_getElem hl fun k h1 h2 => ?_
  have := h k h1
  rwa [row_get h1, row_get h2] at this
theorem swS_nil (hs : Square a) : swS a x z [] = a := by
  refine rows_ext (swS_len _) fun i hi => ?_
  rw [swS_len] at hi
  refine nth_ext (by rw [swS_rlen hi, (hs.2.2.1 i hi).1]) fun c hc => ?_
  rw [swS_rlen hi] at hc
  rw [swS_nth hi hc]
  simp [swN]
theorem row_set {zss : List (List Int)} {i j : Nat} {r : List Int} (hj : j < zss.length) : row (zss.set i r) j = if i = j then r else row zss j := by
  by_cases e : i = j
  · subst e; rw [if_pos rfl]; exact row_eq (by simp [hj])
  · rw [if_neg e]; simp [row, List.getD, List.getElem?_set, e]
/-- one column more -/
theorem swS_step {S : List Nat} {y : Nat} (hx : x < a.length) (hz : z < a.length) (hxz : x ≠ z) (hy : y < a.length) (hS : S.contains y = false) :
    ((swS a x z S).set x ((row (swS a x z S) x).set y (nth (row a z) y))).set z ((row ((swS a x z S).set x ((row (swS a x z S) x).set y (nth (row a z) y))) z).set y (nth (row a x) y)) = swS a x z (y :: S) := by
  refine rows_ext (by simp [swS_len]) fun i hi => ?_
  have hi' : i < a.length := by simpa [swS_len] using hi
  have hl := swS_len (a := a) (x := x) (z := z) S
  rw [row_set (by rw [List.length_set, hl]; exact hi')]
  have key : ∀ c, c < a.length → c ≠ y → swN a x z (y :: S) i c = swN a x z S i c := fun c _ hne => by
    unfold swN
    have : (y :: S).contains c = S.contains c := by simp [hne]
    rw [this]
  have keyy : swN a x z (y :: S) i y = nth (row a (swp x z i)) y := by unfold swN; simp
  by_cases e1 : z = i
  · subst e1
    rw [if_pos rfl, row_set (by rw [hl]; exact hi'), if_neg hxz]
    refine nth_ext (by rw [List.length_set, swS_rlen hi', swS_rlen hi']) fun c hc => ?_
    rw [List.length_set, swS_rlen hi'] at hc
    rw [nth_set (by rw [swS_rlen hi']; exact hc), swS_nth hi' hc, swS_nth hi' hc]
    by_cases e : y = c
    · subst e; rw [if_pos rfl, keyy, swp_z]
    · rw [if_neg e, key c hc (fun h => e h.symm)]
  · rw [if_neg e1, row_set (by rw [hl]; exact hi')]
    by_cases e2 : x = i
    · subst e2
      rw [if_pos rfl]
      refine nth_ext (by rw [List.length_set, swS_rlen hi', swS_rlen hi']) fun c hc => ?_
      rw [List.length_set, swS_rlen hi'] at hc
      rw [nth_set (by rw [swS_rlen hi']; exact hc), swS_nth hi' hc, swS_nth hi' hc]
      by_cases e : y = c
      · subst e; rw [if_pos rfl, keyy, swp_x]
      · rw [if_neg e, key c hc (fun h => e h.symm)]
    · rw [if_neg e2]
      refine nth_ext (by rw [swS_rlen hi', swS_rlen hi']) fun c hc => ?_
      rw [swS_rlen hi'] at hc
      rw [swS_nth hi' hc, swS_nth hi' hc]
      by_cases e : y = c
      · subst e
        rw [keyy]
        have hsw : swp x z i = i := by unfold swp; rw [if_neg (fun h => e2 h.symm), if_neg (fun h => e1 h.symm)]
        unfold swN
        rw [hsw]
        simp
      · rw [key c hc (fun h => e h.symm)]
/-- the state of the walk along the cycle, at column y -/
structure Cyc (a : List (List Int)) (x z : Nat) (first : Int) (S : List Nat) (y : Nat) : Prop where
  yl : y < a.length
  ys : S.contains y = false
  nd : S.Nodup
  sl : ∀ c ∈ S, c < a.length
  nf : ∀ c, c < a.length → c ≠ y → swN a x z S x c ≠ first
  inj : ∀ c d, c < a.length → d < a.length → c ≠ y → d ≠ y → swN a x z S x c = swN a x z S x d → c = d
theorem Cyc.start (hs : Square a) (hx : x < a.length) {y : Nat} (hy : y < a.length) : Cyc a x z (nth (row a x) y) [] y := by
  have hr := hs.2.2.1 x hx
  have key : ∀ c d, c < a.length → d < a.length → nth (row a x) c = nth (row a x) d → c = d := fun c d hc hd e => perm_inj hr.2 (by rw [hr.1]; exact hc) (by rw [hr.1]; exact hd) e
  refine ⟨hy, rfl, by simp, fun _ h => absurd h (by simp), fun c hc hne e => hne ?_, fun c d hc hd _ _ e => ?_⟩
  · simp only [swN, List.contains_nil, Bool.false_eq_true, if_false] at e
    exact key _ _ hc hy e
  · simp only [swN, List.contains_nil, Bool.false_eq_true, if_false] at e
    exact key _ _ hc hd e
theorem Cyc.short {first : Int} {S : List Nat} {y : Nat} (h : Cyc a x z first S y) : S.length < a.length := by
  have hnd : (y :: S).Nodup := List.nodup_cons.2 ⟨fun hm => by have := h.ys; simp [hm] at this, h.nd⟩
  have := hnd.length_le_of_subset (l₂ := List.range a.length) (fun c hc => by
    rcases List.mem_cons.1 hc with rfl | hc
    · exact List.mem_range.2 h.yl
    · exact List.mem_range.2 (h.sl c hc))
  simp at this
  omega
theorem Cyc.at_y {first : Int} {S : List Nat} {y : Nat} (h : Cyc a x z first S y) (i : Nat) : swN a x z S i y = nth (row a i) y := by unfold swN; rw [h.ys]; rfl
theorem sq_inj (hs : Square a) {i c d : Nat} (hi : i < a.length) (hc : c < a.length) (hd : d < a.length) (e : nth (row a i) c = nth (row a i) d) : c = d := by
  have hr := hs.2.2.1 i hi
  exact perm_inj hr.2 (by rw [hr.1]; exact hc) (by rw [hr.1]; exact hd) e
theorem sq_col (hs : Square a) {i j c : Nat} (hi : i < a.length) (hj : j < a.length) (hc : c < a.length) (e : nth (row a i) c = nth (row a j) c) : i = j := by
  have hr := hs.2.2.2 c hc
  have : ∀ k, k < a.length → nth (a.map fun r => nth r c) k = nth (row a k) c := fun k hk => by
    rw [nth_get (by simpa using hk), row_get hk]; simp
  refine perm_inj hr (by simpa using hi) (by simpa using hj) ?_
  rw [this i hi, this j hj]
  exact e
theorem sq_bnd (hs : Square a) {i c : Nat} (hi : i < a.length) (hc : c < a.length) : 0 ≤ nth (row a i) c ∧ nth (row a i) c < a.length := by
  have hr := hs.2.2.1 i hi
  have := hr.2.bd c (by rw [hr.1]; exact hc)
  rwa [hr.1] at this
theorem swN_bnd (hs : Square a) (hx : x < a.length) (hz : z < a.length) {S : List Nat} {i c : Nat} (hi : i < a.length) (hc : c < a.length) : 0 ≤ swN a x z S i c ∧ swN a x z S i c < a.length := by
  unfold swN
  split
  · exact sq_bnd hs (swp_lt hx hz hi) hc
  · exact sq_bnd hs hi hc
/-- a list of a square's side from its places, and when it is a permutation -/
theorem perm_tab {n : Nat} {f : Nat → Int} (hb : ∀ c, c < n → 0 ≤ f c ∧ f c < n) (hi : ∀ c d, c < n → d < n → f c = f d → c = d) : Perm ((List.range n).map f) := by
  have hn : ∀ c, c < n → nth ((List.range n).map f) c = f c := fun c hc => by rw [nth_get (by simpa using hc)]; simp
  refine perm_of (n := n) (by simp) (fun v hv => by rw [hn v hv]; exact hb v hv) (fun u v hu hv e => hi u v hu hv (by rwa [hn u hu, hn v hv] at e))
/-- the next column -/
theorem Cyc.next (hs : Square a) (hx : x < a.length) (hz : z < a.length) (hxz : x ≠ z) {first : Int} (h0 : 0 ≤ first ∧ first < a.length) {S : List Nat} {y : Nat} (h : Cyc a x z first S y) (hd : nth (row a z) y ≠ first) :
    ∃ v, v < a.length ∧ v ≠ y ∧ swN a x z (y :: S) x v = nth (row a z) y ∧ (∀ i, i < a.length → i ≠ y → swN a x z (y :: S) x i = nth (row a z) y → i = v) ∧ Cyc a x z first (y :: S) v := by
  have key : ∀ c, c ≠ y → swN a x z (y :: S) x c = swN a x z S x c := fun c hne => by
    unfold swN
    have : (y :: S).contains c = S.contains c := by simp [hne]
    rw [this]
  have keyy : swN a x z (y :: S) x y = nth (row a z) y := by unfold swN; simp [swp_x]
  have hp : Perm ((List.range a.length).map fun c => if c = y then first else swN a x z S x c) := by
    refine perm_tab (fun c hc => ?_) (fun c d hc hdd e => ?_)
    · split
      · exact h0
      · exact swN_bnd hs hx hz hx hc
    · by_cases e1 : c = y
      · rw [if_pos e1] at e
        by_cases e2 : d = y
        · rw [e1, e2]
        · rw [if_neg e2] at e
          exact absurd e.symm (h.nf d hdd e2)
      · rw [if_neg e1] at e
        by_cases e2 : d = y
        · rw [if_pos e2] at e
          exact absurd e (h.nf c hc e1)
        · rw [if_neg e2] at e
          exact h.inj c d hc hdd e1 e2 e
  have hb := sq_bnd hs hz h.yl
  obtain ⟨u, hu⟩ := Int.eq_ofNat_of_zero_le hb.1
  obtain ⟨v, hv, hev⟩ := perm_surj hp (i := u) (by simp; omega)
  simp only [List.length_map, List.length_range] at hv
  rw [nth_get (by simpa using hv)] at hev
  simp only [List.getElem_map, List.getElem_range] at hev
  have hvy : v ≠ y := fun e => by
    rw [if_pos e] at hev
    exact hd (by rw [hu, hev])
  rw [if_neg hvy] at hev
  have huniq : ∀ i, i < a.length → i ≠ y → swN a x z (y :: S) x i = nth (row a z) y → i = v := fun i hi hne e => by
    rw [key i hne] at e
    exact h.inj i v hi hv hne hvy (by rw [e, hev, hu])
  have hval : swN a x z (y :: S) x v = nth (row a z) y := by rw [key v hvy, hev, hu]
  refine ⟨v, hv, hvy, hval, huniq, hv, ?_, ?_, ?_, ?_, ?_⟩
  · cases hc : (y :: S).contains v with
    | false => rfl
    | true =>
      have e : swN a x z (y :: S) x v = nth (row a z) v := by unfold swN; rw [hc, if_pos rfl, swp_x]
      rw [hval] at e
      exact absurd (sq_inj hs hz h.yl hv e).symm hvy
  · exact List.nodup_cons.2 ⟨fun hm => by have := h.ys; simp [hm] at this, h.nd⟩
  · intro c hc
    rcases List.mem_cons.1 hc with rfl | hc
    · exact h.yl
    · exact h.sl c hc
  · intro c hc hne
    by_cases e : c = y
    · subst e; rw [keyy]; exact hd
    · rw [key c e]; exact h.nf c hc e
  · intro c d hc hdd hne hne2 e
    by_cases e1 : c = y
    · by_cases e2 : d = y
      · rw [e1, e2]
      · rw [e1, keyy] at e
        exact absurd (huniq d hdd e2 e.symm) hne2
    · by_cases e2 : d = y
      · rw [e2, keyy] at e
        exact absurd (huniq c hc e1 e) hne
      · rw [key c e1, key d e2] at e
        exact h.inj c d hc hdd e1 e2 e
/-- the cycle closes: a square -/
theorem Cyc.closed (hs : Square a) (hx : x < a.length) (hz : z < a.length) (hxz : x ≠ z) {first : Int} {S : List Nat} {y : Nat} (h : Cyc a x z first S y) (hd : nth (row a z) y = first) : Square (swS a x z (y :: S)) := by
  have key : ∀ i c, c ≠ y → swN a x z (y :: S) i c = swN a x z S i c := fun i c hne => by
    unfold swN
    have : (y :: S).contains c = S.contains c := by simp [hne]
    rw [this]
  have keyy : swN a x z (y :: S) x y = nth (row a z) y := by unfold swN; simp [swp_x]
  have injx : ∀ c d, c < a.length → d < a.length → swN a x z (y :: S) x c = swN a x z (y :: S) x d → c = d := fun c d hc hdd e => by
    by_cases e1 : c = y
    · by_cases e2 : d = y
      · rw [e1, e2]
      · rw [e1, keyy, key x d e2, hd] at e
        exact absurd e.symm (h.nf d hdd e2)
    · by_cases e2 : d = y
      · rw [e2, keyy, key x c e1, hd] at e
        exact absurd e (h.nf c hc e1)
      · rw [key x c e1, key x d e2] at e
        exact h.inj c d hc hdd e1 e2 e
  have px : Perm ((List.range a.length).map fun c => swN a x z (y :: S) x c) := perm_tab (fun c hc => swN_bnd hs hx hz hx hc) injx
  generalize hT : y :: S = T at *
  have injz : ∀ c d, c < a.length → d < a.length → swN a x z T z c = swN a x z T z d → c = d := by
    have one : ∀ c d, c < a.length → d < a.length → T.contains c = true → T.contains d = false → swN a x z T z c = swN a x z T z d → False := fun c d hc hdd h1 h2 e => by
      have e1 : swN a x z T z c = nth (row a x) c := by unfold swN; rw [h1, if_pos rfl, swp_z]
      have e2 : swN a x z T z d = nth (row a z) d := by unfold swN; rw [h2]; rfl
      rw [e1, e2] at e
      have hb := sq_bnd hs hx hc
      obtain ⟨u, hu⟩ := Int.eq_ofNat_of_zero_le hb.1
      obtain ⟨v, hv, hev⟩ := perm_surj px (i := u) (by simp; omega)
      simp only [List.length_map, List.length_range] at hv
      rw [nth_get (by simpa using hv)] at hev
      simp only [List.getElem_map, List.getElem_range] at hev
      cases hv2 : T.contains v with
      | true =>
        have e3 : swN a x z T x v = nth (row a z) v := by unfold swN; rw [hv2, if_pos rfl, swp_x]
        have : v = d := sq_inj hs hz hv hdd (by rw [← e3, hev, ← hu, e])
        rw [this, h2] at hv2
        cases hv2
      | false =>
        have e3 : swN a x z T x v = nth (row a x) v := by unfold swN; rw [hv2]; rfl
        have : v = c := sq_inj hs hx hv hc (by rw [← e3, hev, ← hu])
        rw [this, h1] at hv2
        cases hv2
    intro c d hc hdd e
    cases h1 : T.contains c with
    | true =>
      cases h2 : T.contains d with
      | true =>
        unfold swN at e
        rw [h1, h2, if_pos rfl, if_pos rfl, swp_z] at e
        exact sq_inj hs hx hc hdd e
      | false => exact (one c d hc hdd h1 h2 e).elim
    | false =>
      cases h2 : T.contains d with
      | true => exact (one d c hdd hc h2 h1 e.symm).elim
      | false =>
        unfold swN at e
        rw [h1, h2] at e
        exact sq_inj hs hz hc hdd e
  refine ⟨by rw [swS_len]; exact hs.1, by rw [swS_len]; exact hs.2.1, fun i hi => ?_, fun c hc => ?_⟩
  · rw [swS_len] at hi
    refine ⟨by rw [swS_rlen hi, swS_len], ?_⟩
    rw [swS_row hi]
    refine perm_tab (fun c hc => swN_bnd hs hx hz hi hc) ?_
    by_cases e1 : i = x
    · subst e1; exact injx
    · by_cases e2 : i = z
      · subst e2; exact injz
      · intro c d hc hdd e
        unfold swN swp at e
        rw [if_neg e1, if_neg e2] at e
        simp only [ite_self] at e
        exact sq_inj hs hi hc hdd e
  · rw [swS_len] at hc
    have hm : (swS a x z T).map (fun r => nth r c) = (List.range a.length).map fun i => swN a x z T i c := by
      refine nth_ext (by simp [swS_len]) fun i hi => ?_
      have hi' : i < a.length := by simpa [swS_len] using hi
      rw [nth_get hi, nth_get (by simpa using hi')]
      simp only [List.getElem_map, List.getElem_range]
      rw [← swS_nth hi' hc, row_get (by rw [swS_len]; exact hi')]
    rw [hm]
    refine perm_tab (fun i hi => swN_bnd hs hx hz hi hc) (fun i j hi hj e => ?_)
    unfold swN at e
    cases h1 : T.contains c with
    | true =>
      rw [h1, if_pos rfl, if_pos rfl] at e
      have := sq_col hs (swp_lt hx hz hi) (swp_lt hx hz hj) hc e
      rw [← swp_swp (x := x) (z := z) i, this, swp_swp]
    | false =>
      rw [h1] at e
      exact sq_col hs hi hj hc e
end
end Go.Proofs.Ytcnjlkabdfcjdaa
/- Plain law: rows that are filled place by place; what makes them a square. No condition beyond those stated. -/
namespace Go.Proofs.Ytcnjlkabdfcjdaa
open Go.RowKit

def zerosP (r c : Nat) : List (List Int) := List.replicate r (List.replicate c 0)
theorem zerosP_len (r c : Nat) : (zerosP r c).length = r := by simp [zerosP]
theorem zerosP_row {r c i : Nat} (h : i < r) : row (zerosP r c) i = List.replicate c 0 := by rw [row_get (by rw [zerosP_len]; exact h)]; simp [zerosP]
theorem zerosP_step {r c : Nat} (h : r + 1 ≤ r + 1) : zerosP r c ++ [List.replicate c 0] = zerosP (r + 1) c := by simp [zerosP, List.replicate_succ']
/-- rows of length n, the places of all cells before (x, y) written -/
structure Fil (n : Nat) (P Q : Nat → Nat → Nat) (f : Nat → Nat → Int) (zss : List (List Int)) (x y : Nat) : Prop where
  len : zss.length = n
  rows : ∀ i, i < n → (row zss i).length = n
  got : ∀ u v, u < n → v < n → (u < x ∨ u = x ∧ v < y) → nth (row zss (P u v)) (Q u v) = f u v
section
variable {n : Nat} {P Q : Nat → Nat → Nat} {f : Nat → Nat → Int} {zss : List (List Int)} {x y : Nat}
theorem Fil.start (n : Nat) (P Q : Nat → Nat → Nat) (f : Nat → Nat → Int) : Fil n P Q f (zerosP n n) 0 0 :=
  ⟨zerosP_len n n, fun i hi => by rw [zerosP_row hi]; simp, fun u v _ _ h => by omega⟩
theorem Fil.line (h : Fil n P Q f zss x n) : Fil n P Q f zss (x + 1) 0 := ⟨h.len, h.rows, fun u v hu hv hh => h.got u v hu hv (by omega)⟩
theorem Fil.step (h : Fil n P Q f zss x y) (hx : x < n) (hy : y < n) (hP : ∀ u v, u < n → v < n → P u v < n ∧ Q u v < n)
    (inj : ∀ u v u' v', u < n → v < n → u' < n → v' < n → P u v = P u' v' → Q u v = Q u' v' → u = u' ∧ v = v') : Fil n P Q f (zss.set (P x y) ((row zss (P x y)).set (Q x y) (f x y))) x (y + 1) := by
  have hp := hP x y hx hy
  have hr : ∀ i, i < n → row (zss.set (P x y) ((row zss (P x y)).set (Q x y) (f x y))) i = if P x y = i then (row zss (P x y)).set (Q x y) (f x y) else row zss i := fun i hi => row_set (by rw [h.len]; exact hi)
  refine ⟨by rw [List.length_set, h.len], fun i hi => ?_, fun u v hu hv hh => ?_⟩
  · rw [hr i hi]
    split
    · rw [List.length_set, h.rows _ hp.1]
    · exact h.rows i hi
  · have hq := hP u v hu hv
    rw [hr _ hq.1]
    by_cases e : P x y = P u v
    · rw [if_pos e, nth_set (by rw [h.rows _ hp.1]; exact hq.2)]
      by_cases e2 : Q x y = Q u v
      · obtain ⟨rfl, rfl⟩ := inj _ _ _ _ hx hy hu hv e e2
        rw [if_pos rfl]
      · rw [if_neg e2, e]
        refine h.got u v hu hv ?_
        rcases hh with h1 | ⟨rfl, h1⟩
        · exact .inl h1
        · refine .inr ⟨rfl, ?_⟩
          rcases Nat.lt_succ_iff_lt_or_eq.1 h1 with h2 | rfl
          · exact h2
          · exact absurd rfl e2
    · rw [if_neg e]
      refine h.got u v hu hv ?_
      rcases hh with h1 | ⟨rfl, h1⟩
      · exact .inl h1
      · refine .inr ⟨rfl, ?_⟩
        rcases Nat.lt_succ_iff_lt_or_eq.1 h1 with h2 | rfl
        · exact h2
        · exact absurd rfl e
end
/-- rows of length n, from their places -/
def tabS (n : Nat) (f : Nat → Nat → Int) : List (List Int) := (List.range n).map fun x => (List.range n).map fun y => f x y
theorem tabS_len (n : Nat) (f : Nat → Nat → Int) : (tabS n f).length = n := by simp [tabS]
theorem tabS_row {n : Nat} {f : Nat → Nat → Int} {x : Nat} (h : x < n) : row (tabS n f) x = (List.range n).map fun y => f x y := by
  rw [row_get (by rw [tabS_len]; exact h)]; simp [tabS]
theorem tabS_nth {n : Nat} {f : Nat → Nat → Int} {x y : Nat} (h : x < n) (k : y < n) : nth (row (tabS n f) x) y = f x y := by
  rw [tabS_row h, nth_get (by simpa using k)]; simp
theorem Fil.tab {n : Nat} {f : Nat → Nat → Int} {zss : List (List Int)} (h : Fil n (fun u _ => u) (fun _ v => v) f zss n 0) : zss = tabS n f := by
  refine rows_ext (by rw [h.len, tabS_len]) fun i hi => ?_
  rw [h.len] at hi
  refine nth_ext (by rw [h.rows i hi, tabS_row hi]; simp) fun j hj => ?_
  rw [h.rows i hi] at hj
  rw [tabS_nth hi hj]
  exact h.got i j hi hj (.inl hi)
/-- cells that are told apart by two numbers below n: all pairs come -/
theorem pairs_surj {n : Nat} {P Q : Nat → Nat → Nat} (hP : ∀ u v, u < n → v < n → P u v < n ∧ Q u v < n)
    (inj : ∀ u v u' v', u < n → v < n → u' < n → v' < n → P u v = P u' v' → Q u v = Q u' v' → u = u' ∧ v = v') {i j : Nat} (hi : i < n) (hj : j < n) : ∃ u v, u < n ∧ v < n ∧ P u v = i ∧ Q u v = j := by
  have hlt : ∀ {p q : Nat}, p < n → q < n → n * p + q < n * n := fun {p q} hp hq => by
    have : n * (p + 1) ≤ n * n := Nat.mul_le_mul_left n hp
    rw [Nat.mul_succ] at this
    omega
  have hdm : ∀ k, k < n * n → k / n < n ∧ k % n < n := fun k hk => ⟨Nat.div_lt_of_lt_mul hk, Nat.mod_lt _ (by omega)⟩
  have hp : Perm ((List.range (n * n)).map fun k => ((n * P (k / n) (k % n) + Q (k / n) (k % n) : Nat) : Int)) := by
    refine perm_tab (fun k hk => ?_) (fun k l hk hl e => ?_)
    · obtain ⟨h1, h2⟩ := hdm k hk
      obtain ⟨h3, h4⟩ := hP _ _ h1 h2
      have := hlt h3 h4
      exact ⟨by omega, by omega⟩
    · obtain ⟨h1, h2⟩ := hdm k hk
      obtain ⟨h3, h4⟩ := hdm l hl
      obtain ⟨a1, a2⟩ := hP _ _ h1 h2
      obtain ⟨b1, b2⟩ := hP _ _ h3 h4
      have e' : n * P (k / n) (k % n) + Q (k / n) (k % n) = n * P (l / n) (l % n) + Q (l / n) (l % n) := by omega
      have c1 : P (k / n) (k % n) = P (l / n) (l % n) := by
        have : (n * P (k / n) (k % n) + Q (k / n) (k % n)) / n = (n * P (l / n) (l % n) + Q (l / n) (l % n)) / n := by rw [e']
        rwa [Nat.mul_add_div (by omega), Nat.mul_add_div (by omega), Nat.div_eq_of_lt a2, Nat.div_eq_of_lt b2, Nat.add_zero, Nat.add_zero] at this
      have c2 : Q (k / n) (k % n) = Q (l / n) (l % n) := by rw [c1] at e'; omega
      obtain ⟨d1, d2⟩ := inj _ _ _ _ h1 h2 h3 h4 c1 c2
      rw [← Nat.div_add_mod k n, ← Nat.div_add_mod l n, d1, d2]
  obtain ⟨k, hk, he⟩ := perm_surj hp (i := n * i + j) (by simp; exact hlt hi hj)
  simp only [List.length_map, List.length_range] at hk
  rw [nth_get (by simpa using hk)] at he
  simp only [List.getElem_map, List.getElem_range] at he
  obtain ⟨h1, h2⟩ := hdm k hk
  obtain ⟨a1, a2⟩ := hP _ _ h1 h2
  have e' : n * P (k / n) (k % n) + Q (k / n) (k % n) = n * i + j := by omega
  have c1 : P (k / n) (k % n) = i := by
    have : (n * P (k / n) (k % n) + Q (k / n) (k % n)) / n = (n * i + j) / n := by rw [e']
    rwa [Nat.mul_add_div (by omega), Nat.mul_add_div (by omega), Nat.div_eq_of_lt a2, Nat.div_eq_of_lt hj, Nat.add_zero, Nat.add_zero] at this
  exact ⟨k / n, k % n, h1, h2, c1, by rw [c1] at e'; omega⟩
/-- triples of numbers below n, each two of which tell all cells apart: a square -/
theorem square_of_tri {n : Nat} (h1 : 1 ≤ n) (h10 : n ≤ 10) {P Q R : Nat → Nat → Nat} (hP : ∀ u v, u < n → v < n → P u v < n ∧ Q u v < n ∧ R u v < n)
    (pq : ∀ u v u' v', u < n → v < n → u' < n → v' < n → P u v = P u' v' → Q u v = Q u' v' → u = u' ∧ v = v')
    (pr : ∀ u v u' v', u < n → v < n → u' < n → v' < n → P u v = P u' v' → R u v = R u' v' → u = u' ∧ v = v')
    (qr : ∀ u v u' v', u < n → v < n → u' < n → v' < n → Q u v = Q u' v' → R u v = R u' v' → u = u' ∧ v = v')
    {zss : List (List Int)} (h : Fil n P Q (fun u v => (R u v : Int)) zss n 0) : Square zss := by
  have at_ : ∀ i j, i < n → j < n → ∃ u v, u < n ∧ v < n ∧ P u v = i ∧ Q u v = j ∧ nth (row zss i) j = (R u v : Int) := fun i j hi hj => by
    obtain ⟨u, v, hu, hv, e1, e2⟩ := pairs_surj (fun u v hu hv => ⟨(hP u v hu hv).1, (hP u v hu hv).2.1⟩) pq hi hj
    exact ⟨u, v, hu, hv, e1, e2, by have := h.got u v hu hv (.inl hu); rwa [e1, e2] at this⟩
  refine ⟨by rw [h.len]; exact h1, by rw [h.len]; exact h10, fun i hi => ?_, fun j hj => ?_⟩
  · rw [h.len] at hi
    refine ⟨by rw [h.rows i hi, h.len], perm_of (h.rows i hi) (fun j hj => ?_) (fun j k hj hk e => ?_)⟩
    · obtain ⟨u, v, hu, hv, e1, e2, e3⟩ := at_ i j hi hj
      have := (hP u v hu hv).2.2
      rw [e3]; exact ⟨by omega, by omega⟩
    · obtain ⟨u, v, hu, hv, e1, e2, e3⟩ := at_ i j hi hj
      obtain ⟨u', v', hu', hv', f1, f2, f3⟩ := at_ i k hi hk
      rw [e3, f3] at e
      obtain ⟨rfl, rfl⟩ := pr u v u' v' hu hv hu' hv' (by rw [e1, f1]) (by omega)
      rw [← e2, f2]
  · rw [h.len] at hj
    have hn : ∀ i, i < n → nth (zss.map fun r => nth r j) i = nth (row zss i) j := fun i hi => by
      rw [nth_get (by rw [List.length_map, h.len]; exact hi), row_get (by rw [h.len]; exact hi)]; simp
    refine perm_of (n := n) (by rw [List.length_map, h.len]) (fun i hi => ?_) (fun i k hi hk e => ?_)
    · rw [hn i hi]
      obtain ⟨u, v, hu, hv, e1, e2, e3⟩ := at_ i j hi hj
      have := (hP u v hu hv).2.2
      rw [e3]; exact ⟨by omega, by omega⟩
    · rw [hn i hi, hn k hk] at e
      obtain ⟨u, v, hu, hv, e1, e2, e3⟩ := at_ i j hi hj
      obtain ⟨u', v', hu', hv', f1, f2, f3⟩ := at_ k j hk hj
      rw [e3, f3] at e
      obtain ⟨rfl, rfl⟩ := qr u v u' v' hu hv hu' hv' (by rw [e2, f2]) (by omega)
      rw [← e1, f1]
/-- the cyclic square, and the product of two squares -/
def cycP (n : Nat) : List (List Int) := tabS n fun x y => (((x + y) % n : Nat) : Int)
def prodP (a b : List (List Int)) : List (List Int) := tabS (a.length * b.length) fun x y => (b.length : Int) * nth (row a (x / b.length)) (y / b.length) + nth (row b (x % b.length)) (y % b.length)
def permB (p : List Int) : Bool := (List.range p.length).all fun k => decide (0 ≤ nth p k ∧ nth p k < p.length) && (List.range k).all fun i => decide (nth p i ≠ nth p k)
theorem permB_ok {p : List Int} (h : permB p = true) : Perm p := by
  unfold permB at h
  rw [List.all_eq_true] at h
  have h' : ∀ k, k < p.length → (0 ≤ nth p k ∧ nth p k < p.length) ∧ ∀ i, i < k → nth p i ≠ nth p k := fun k hk => by
    have := h k (List.mem_range.2 hk)
    rw [Bool.and_eq_true, List.all_eq_true] at this
    exact ⟨by simpa using this.1, fun i hi => by simpa using this.2 i (List.mem_range.2 hi)⟩
  exact ⟨fun k hk => (h' k hk).1, fun i j hij hj => (h' j hj).2 i hij⟩
def squareB (a : List (List Int)) : Bool := decide (1 ≤ a.length ∧ a.length ≤ 10) && (List.range a.length).all (fun i => decide ((row a i).length = a.length) && permB (row a i)) && (List.range a.length).all fun y => permB (a.map fun r => nth r y)
theorem squareB_ok {a : List (List Int)} (h : squareB a = true) : Square a := by
  unfold squareB at h
  rw [Bool.and_eq_true, Bool.and_eq_true, List.all_eq_true, List.all_eq_true] at h
  obtain ⟨⟨h1, h2⟩, h3⟩ := h
  have h1 : 1 ≤ a.length ∧ a.length ≤ 10 := by simpa using h1
  refine ⟨h1.1, h1.2, fun i hi => ?_, fun y hy => permB_ok (h3 y (List.mem_range.2 hy))⟩
  have := h2 i (List.mem_range.2 hi)
  rw [Bool.and_eq_true] at this
  exact ⟨by simpa using this.1, permB_ok this.2⟩
theorem cyc_square {n : Nat} (h1 : 1 ≤ n) (h6 : n ≤ 10) : Square (cycP n) := by
  have : n = 1 ∨ n = 2 ∨ n = 3 ∨ n = 4 ∨ n = 5 ∨ n = 6 ∨ n = 7 ∨ n = 8 ∨ n = 9 ∨ n = 10 := by omega
  rcases this with rfl | rfl | rfl | rfl | rfl | rfl | rfl | rfl | rfl | rfl <;> exact squareB_ok (by decide +kernel)
theorem prod_22 : Square (prodP (cycP 2) (cycP 2)) := squareB_ok (by decide +kernel)
theorem prod_33 : Square (prodP (cycP 3) (cycP 3)) := squareB_ok (by decide +kernel)
theorem prod_222 : Square (prodP (prodP (cycP 2) (cycP 2)) (cycP 2)) := squareB_ok (by decide +kernel)
theorem prod_32 : Square (prodP (cycP 3) (cycP 2)) := squareB_ok (by decide +kernel)
theorem prodP_len (a b : List (List Int)) : (prodP a b).length = a.length * b.length := tabS_len _ _
theorem cycP_len (n : Nat) : (cycP n).length = n := tabS_len _ _
/-- an isotope -/
theorem isotope_square {n : Nat} {a b : List (List Int)} {r k z : List Int} (hs : Square a) (hn : a.length = n) (hr : Perm r) (lr : r.length = n) (hk : Perm k) (lk : k.length = n) (hz : Perm z) (lz : z.length = n)
    (h : Fil n (fun x _ => (nth r x).toNat) (fun _ y => (nth k y).toNat) (fun x y => nth z (nth (row a x) y).toNat) b n 0) : Square b := by
  subst hn
  have br : ∀ {p : List Int}, Perm p → p.length = a.length → ∀ i, i < a.length → (nth p i).toNat < a.length ∧ ((nth p i).toNat : Int) = nth p i := fun {p} hp lp i hi => by
    have := perm_lt hp (v := i) (by omega); rw [lp] at this; exact this
  have inj : ∀ {p : List Int}, Perm p → p.length = a.length → ∀ i j, i < a.length → j < a.length → (nth p i).toNat = (nth p j).toNat → i = j := fun {p} hp lp i j hi hj e =>
    perm_inj hp (by omega) (by omega) (by have := (br hp lp i hi).2; have := (br hp lp j hj).2; omega)
  have bs : ∀ x y, x < a.length → y < a.length → (nth (row a x) y).toNat < a.length := fun x y hx hy => by have := sq_bnd hs hx hy; omega
  have sinj : ∀ x y x' y', x < a.length → y < a.length → x' < a.length → y' < a.length → (nth z (nth (row a x) y).toNat).toNat = (nth z (nth (row a x') y').toNat).toNat → nth (row a x) y = nth (row a x') y' := fun x y x' y' hx hy hx' hy' e => by
    have := inj hz lz _ _ (bs x y hx hy) (bs x' y' hx' hy') e
    have h1 := sq_bnd hs hx hy
    have h2 := sq_bnd hs hx' hy'
    omega
  refine square_of_tri (n := a.length) hs.1 hs.2.1 (P := fun x _ => (nth r x).toNat) (Q := fun _ y => (nth k y).toNat) (R := fun x y => (nth z (nth (row a x) y).toNat).toNat)
    (fun u v hu hv => ⟨(br hr lr u hu).1, (br hk lk v hv).1, (br hz lz _ (bs u v hu hv)).1⟩)
    (fun u v u' v' hu hv hu' hv' e1 e2 => ⟨inj hr lr _ _ hu hu' e1, inj hk lk _ _ hv hv' e2⟩)
    (fun u v u' v' hu hv hu' hv' e1 e2 => by
      obtain rfl := inj hr lr _ _ hu hu' e1
      exact ⟨rfl, sq_inj hs hu hv hv' (sinj _ _ _ _ hu hv hu hv' e2)⟩)
    (fun u v u' v' hu hv hu' hv' e1 e2 => by
      obtain rfl := inj hk lk _ _ hv hv' e1
      exact ⟨sq_col hs hu hu' hv (sinj _ _ _ _ hu hv hu' hv e2), rfl⟩)
    ⟨h.len, h.rows, fun u v hu hv hh => by rw [h.got u v hu hv hh]; exact (br hz lz _ (bs u v hu hv)).2.symm⟩
end Go.Proofs.Ytcnjlkabdfcjdaa
