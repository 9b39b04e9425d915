/- Plain law: lists that can take symbols of their own, and the least way. No program in sight. -/
import Derived.Test.YtcnjlkabdfcjdaaZAS
set_option linter.unusedVariables false
set_option linter.unusedSimpArgs false
namespace Go.Proofs.Ytcnjlkabdfcjdaa

def noT : Nat → Bool := fun _ => false
/-- lists take symbols one after the other -/
def matS (L : List (List Int)) (used : Nat → Bool) (n k : Nat) : Nat → Bool × (Nat → Int)
  | 0 => (true, fun _ => -1)
  | m + 1 => if (matS L used n k m).1 = true then ((augP L used (n + 1) (k + m) ⟨(matS L used n k m).2, noT⟩).1, (augP L used (n + 1) (k + m) ⟨(matS L used n k m).2, noT⟩).2.owner) else matS L used n k m
def matP (L : List (List Int)) (used : Nat → Bool) (n k : Nat) : Bool := (matS L used n k (n - k)).1
theorem matS_false {L : List (List Int)} {used : Nat → Bool} {n k m : Nat} (h : (matS L used n k m).1 = false) : ∀ j, m ≤ j → (matS L used n k j).1 = false
  | 0, hj => by obtain rfl : m = 0 := by omega
                exact h
  | j + 1, hj => by
    by_cases e : m = j + 1
    · rw [← e]; exact h
    · have := matS_false h j (by omega)
      rw [matS, if_neg (by rw [this]; simp)]
      exact this
structure Viol (n : Nat) (L : List (List Int)) (used : Nat → Bool) (k : Nat) (J S : List Nat) : Prop where
  jn : J.Nodup
  sn : S.Nodup
  len : J.length = S.length + 1
  jin : ∀ j ∈ J, k ≤ j ∧ j < n
  sin : ∀ s ∈ S, s < n
  adj : ∀ j ∈ J, ∀ u, Adj L j u → used u = false → u ∈ S
theorem unT_noT (n : Nat) : unT n noT = n := by
  show ((List.range n).filter fun _ => true).length = n
  rw [List.filter_eq_self.2 (fun _ _ => rfl), List.length_range]
theorem matS_good {n : Nat} {L : List (List Int)} {used : Nat → Bool} (hL : LOk n L) {k : Nat} : ∀ m, k + m ≤ n → (matS L used n k m).1 = true → Pre n L used (matS L used n k m).2 noT ∧ ∀ j : Nat, (∃ s, s < n ∧ (matS L used n k m).2 s = (j : Int)) ↔ k ≤ j ∧ j < k + m
  | 0, _, _ => ⟨⟨fun s _ _ => .inl rfl, fun s t _ _ _ _ h => absurd rfl h⟩, fun j => ⟨fun ⟨s, _, e⟩ => by simp only [matS] at e; omega, fun h => by omega⟩⟩
  | m + 1, hm, h => by
    by_cases e : (matS L used n k m).1 = true
    · obtain ⟨hp, him⟩ := matS_good hL m (by omega) e
      have hs := augP_spec (n := n) (used := used) hL n (k + m) ⟨(matS L used n k m).2, noT⟩ (by omega) (by simp only [unT_noT]; exact Nat.le_refl _) hp (fun s hs _ e2 => by
        have := (him (k + m)).1 ⟨s, hs, e2⟩
        omega)
      rw [matS, if_pos e] at h ⊢
      simp only [] at h ⊢
      have hS := hs.1 h
      refine ⟨hS.pre, fun j => ?_⟩
      have h1 := hS.im j
      have h2 := him j
      simp only [noT, true_and] at h1
      constructor
      · intro h3
        rcases h1.1 h3 with h4 | h4
        · have := h2.1 h4; omega
        · omega
      · intro h3
        refine h1.2 ?_
        by_cases e2 : j = k + m
        · exact .inr e2
        · exact .inl (h2.2 (by omega))
    · rw [matS, if_neg e] at h
      exact absurd h e
theorem matS_bad {n : Nat} {L : List (List Int)} {used : Nat → Bool} (hL : LOk n L) {k : Nat} : ∀ m, k + m ≤ n → (matS L used n k m).1 = false → ∃ J S, Viol n L used k J S
  | 0, _, h => by simp [matS] at h
  | m + 1, hm, h => by
    by_cases e : (matS L used n k m).1 = true
    · obtain ⟨hp, him⟩ := matS_good (used := used) hL m (by omega) e
      have hout : ∀ s, s < n → (matS L used n k m).2 s ≠ ((k + m : Nat) : Int) := fun s hs e2 => by
        have := (him (k + m)).1 ⟨s, hs, e2⟩
        omega
      have hs := augP_spec (n := n) (used := used) hL n (k + m) ⟨(matS L used n k m).2, noT⟩ (by omega) (by simp only [unT_noT]; exact Nat.le_refl _) hp (fun s hs _ e2 => hout s hs e2)
      rw [matS, if_pos e] at h
      simp only [] at h
      obtain ⟨-, hF⟩ := hs.2 h
      generalize (augP L used (n + 1) (k + m) ⟨(matS L used n k m).2, noT⟩).2.tried = T at *
      generalize (matS L used n k m).2 = o at *
      clear hs h
      have hS : ∀ s, s ∈ (List.range n).filter T ↔ s < n ∧ T s = true := fun s => by rw [List.mem_filter, List.mem_range]
      have ho : ∀ s, s ∈ (List.range n).filter T → ∃ j : Nat, j < n ∧ o s = (j : Int) ∧ ∀ u, Adj L j u → used u = false → T u = true := fun s hs => hF.clos s ((hS s).1 hs).1 ((hS s).1 hs).2 rfl
      have huse : ∀ j u, j < n → Adj L j u → u < n := fun j u hj hu => by have := hL j (u : Int) hj hu; omega
      refine ⟨(k + m) :: ((List.range n).filter T).map fun s => (o s).toNat, (List.range n).filter T, List.nodup_cons.2 ⟨fun hm2 => ?_, ?_⟩, List.Pairwise.filter _ List.nodup_range, by simp, fun j hj => ?_, fun s hs => ((hS s).1 hs).1, fun j hj u hu hus => ?_⟩
      · obtain ⟨s, hs, e2⟩ := List.mem_map.1 hm2
        obtain ⟨j, hj, e3, -⟩ := ho s hs
        exact hout s ((hS s).1 hs).1 (by rw [e3] at e2 ⊢; simp only [Int.toNat_natCast] at e2; omega)
      · refine List.pairwise_map.2 (List.Pairwise.imp_of_mem ?_ (List.Pairwise.filter _ List.nodup_range))
        intro s t hs ht hne e2
        obtain ⟨j, hj, e3, -⟩ := ho s hs
        obtain ⟨i, hi, e4, -⟩ := ho t ht
        rw [e3, e4] at e2
        simp only [Int.toNat_natCast] at e2
        exact hne (hp.inj s t ((hS s).1 hs).1 ((hS t).1 ht).1 rfl rfl (by omega) (by rw [e3, e4, e2]))
      · rcases List.mem_cons.1 hj with rfl | hj
        · omega
        · obtain ⟨s, hs, e2⟩ := List.mem_map.1 hj
          obtain ⟨i, hi, e3, -⟩ := ho s hs
          have := (him i).1 ⟨s, ((hS s).1 hs).1, e3⟩
          rw [e3] at e2
          simp only [Int.toNat_natCast] at e2
          omega
      · rcases List.mem_cons.1 hj with rfl | hj
        · exact (hS u).2 ⟨huse _ u (by omega) hu, hF.here u hu hus⟩
        · obtain ⟨s, hs, e2⟩ := List.mem_map.1 hj
          obtain ⟨i, hi, e3, e4⟩ := ho s hs
          rw [e3] at e2
          simp only [Int.toNat_natCast] at e2
          subst e2
          exact (hS u).2 ⟨huse _ u hi hu, e4 u hu hus⟩
    · rw [matS, if_neg e] at h
      exact matS_bad hL m (by omega) h
/-- each list has a symbol of its own -/
structure Sdr (n : Nat) (L : List (List Int)) (used : Nat → Bool) (k : Nat) (g : Nat → Nat) : Prop where
  adj : ∀ j, k ≤ j → j < n → Adj L j (g j) ∧ used (g j) = false
  inj : ∀ i j, k ≤ i → i < j → j < n → g i ≠ g j
theorem Viol.none {n : Nat} {L : List (List Int)} {used : Nat → Bool} {k : Nat} {J S : List Nat} (h : Viol n L used k J S) (g : Nat → Nat) : ¬ Sdr n L used k g := fun hg => by
  have hnd : (J.map g).Nodup := by
    refine List.pairwise_map.2 (List.Pairwise.imp_of_mem ?_ h.jn)
    intro i j hi hj hne e
    have h1 := h.jin i hi
    have h2 := h.jin j hj
    rcases Nat.lt_or_ge i j with hl | hl
    · exact hg.inj i j h1.1 hl h2.2 e
    · exact hg.inj j i h2.1 (by omega) h1.2 e.symm
  have := List.Nodup.length_le_of_subset hnd (l₂ := S) (fun s hs => by
    obtain ⟨j, hj, rfl⟩ := List.mem_map.1 hs
    obtain ⟨h1, h2⟩ := h.jin j hj
    exact h.adj j hj _ (hg.adj j h1 h2).1 (hg.adj j h1 h2).2)
  rw [List.length_map, h.len] at this
  omega
theorem matP_iff {n : Nat} {L : List (List Int)} {used : Nat → Bool} (hL : LOk n L) {k : Nat} (hk : k ≤ n) : matP L used n k = true ↔ ∃ g, Sdr n L used k g := by
  constructor
  · intro h
    obtain ⟨hp, him⟩ := matS_good hL (n - k) (by omega) h
    have hex : ∀ j, k ≤ j → j < n → ∃ s, s < n ∧ (matS L used n k (n - k)).2 s = (j : Int) := fun j h1 h2 => (him j).2 (by omega)
    refine ⟨fun j => if h : k ≤ j ∧ j < n then Classical.choose (hex j h.1 h.2) else 0, fun j h1 h2 => ?_, fun i j h1 h2 h3 e => ?_⟩
    · rw [dif_pos ⟨h1, h2⟩]
      obtain ⟨e1, e2⟩ := Classical.choose_spec (hex j h1 h2)
      generalize Classical.choose (hex j h1 h2) = s at *
      rcases hp.val s e1 rfl with e3 | ⟨i, e3, -, e4, e5⟩
      · omega
      · obtain rfl : i = j := by omega
        exact ⟨e4, e5⟩
    · rw [dif_pos ⟨h1, by omega⟩, dif_pos ⟨by omega, h3⟩] at e
      have e1 := (Classical.choose_spec (hex i h1 (by omega))).2
      have e2 := (Classical.choose_spec (hex j (by omega) h3)).2
      rw [e, e2] at e1
      omega
  · rintro ⟨g, hg⟩
    cases e : matP L used n k with
    | true => rfl
    | false =>
      obtain ⟨J, S, hv⟩ := matS_bad hL (n - k) (by omega) e
      exact absurd hg (hv.none g)
/-! counting twice -/
instance (L : List (List Int)) (j s : Nat) : Decidable (Adj L j s) := by unfold Adj; infer_instance
theorem sum_add_filter (r : Nat → Bool) (X : Nat → Nat) : ∀ S : List Nat, (S.map fun s => if r s = true then X s + 1 else X s).sum = (S.filter r).length + (S.map X).sum
  | [] => rfl
  | s :: S => by
    rw [List.map_cons, List.sum_cons, sum_add_filter r X S, List.map_cons, List.sum_cons, List.filter_cons]
    by_cases h : r s = true
    · rw [if_pos h, if_pos h, List.length_cons]; omega
    · rw [if_neg h, if_neg h]; omega
theorem sum_twice (r : Nat → Nat → Bool) (S : List Nat) : ∀ J : List Nat, (J.map fun j => (S.filter (r j)).length).sum = (S.map fun s => (J.filter fun j => r j s).length).sum
  | [] => by
    induction S with
    | nil => rfl
    | cons s S ih => simpa using ih
  | j :: J => by
    rw [List.map_cons, List.sum_cons, sum_twice r S J, ← sum_add_filter (r j)]
    congr 1
    refine List.map_congr_left fun s _ => ?_
    rw [List.filter_cons]
    by_cases h : r j s = true
    · rw [if_pos h, if_pos h, List.length_cons]
    · rw [if_neg h, if_neg h]
theorem sum_ge {d : Nat} {f : Nat → Nat} : ∀ J : List Nat, (∀ j ∈ J, d ≤ f j) → J.length * d ≤ (J.map f).sum
  | [], _ => by simp
  | j :: J, h => by
    have h1 := sum_ge J fun i hi => h i (List.mem_cons_of_mem _ hi)
    have h2 := h j List.mem_cons_self
    rw [List.map_cons, List.sum_cons, List.length_cons, Nat.succ_mul]
    omega
theorem sum_le {d : Nat} {f : Nat → Nat} : ∀ J : List Nat, (∀ j ∈ J, f j ≤ d) → (J.map f).sum ≤ J.length * d
  | [], _ => by simp
  | j :: J, h => by
    have h1 := sum_le J fun i hi => h i (List.mem_cons_of_mem _ hi)
    have h2 := h j List.mem_cons_self
    rw [List.map_cons, List.sum_cons, List.length_cons, Nat.succ_mul]
    omega
theorem Viol.count {n : Nat} {L : List (List Int)} {k : Nat} {J S : List Nat} (h : Viol n L noT k J S) {d : Nat} (hd : 0 < d)
    (h1 : ∀ j, j < n → d ≤ ((List.range n).filter fun s => decide (Adj L j s)).length) (h2 : ∀ s, s < n → ((List.range n).filter fun j => decide (Adj L j s)).length ≤ d) : False := by
  have e := sum_twice (fun j s => decide (Adj L j s)) S J
  have a := sum_ge (d := d) (f := fun j => (S.filter fun s => decide (Adj L j s)).length) J (fun j hj => by
    refine Nat.le_trans (h1 j (h.jin j hj).2) (List.Nodup.length_le_of_subset (List.Pairwise.filter _ List.nodup_range) fun s hs => ?_)
    obtain ⟨e1, e2⟩ := List.mem_filter.1 hs
    exact List.mem_filter.2 ⟨h.adj j hj s (by simpa using e2) rfl, e2⟩)
  have b := sum_le (d := d) (f := fun s => (J.filter fun j => decide (Adj L j s)).length) S (fun s hs => by
    refine Nat.le_trans (List.Nodup.length_le_of_subset (List.Pairwise.filter _ h.jn) fun j hj => ?_) (h2 s (h.sin s hs))
    obtain ⟨e1, e2⟩ := List.mem_filter.1 hj
    exact List.mem_filter.2 ⟨List.mem_range.2 (h.jin j e1).2, e2⟩)
  rw [h.len, Nat.succ_mul] at a
  omega
/-! the least way -/
def lrP (L : List (List Int)) (n : Nat) : Nat → Nat → (Nat → Bool) → List Int
  | 0, _, _ => []
  | m + 1, k, used => match (row L k).find? (fun z => !used z.toNat && matP L (setF used z.toNat true) n (k + 1)) with
    | some z => z :: lrP L n m (k + 1) (setF used z.toNat true)
    | none => []
def Asc (L : List (List Int)) : Prop := ∀ j, (row L j).Pairwise (· < ·)
theorem Sdr.next {n : Nat} {L : List (List Int)} {used : Nat → Bool} {k : Nat} {g : Nat → Nat} (h : Sdr n L used k g) (hk : k < n) : Sdr n L (setF used (g k) true) (k + 1) g :=
  ⟨fun j h1 h2 => ⟨(h.adj j (by omega) h2).1, by rw [setF_ne _ _ (fun e => h.inj k j (Nat.le_refl _) (by omega) h2 e.symm)]; exact (h.adj j (by omega) h2).2⟩, fun i j h1 h2 h3 => h.inj i j (by omega) h2 h3⟩
/-- there is a pick -/
theorem pick_some {n : Nat} {L : List (List Int)} {used : Nat → Bool} (hL : LOk n L) {k : Nat} (hk : k < n) {g : Nat → Nat} (h : Sdr n L used k g) : (!used ((g k : Nat) : Int).toNat && matP L (setF used ((g k : Nat) : Int).toNat true) n (k + 1)) = true := by
  rw [Int.toNat_natCast, (h.adj k (Nat.le_refl _) hk).2, Bool.not_false, Bool.true_and]
  exact (matP_iff hL (by omega)).2 ⟨g, h.next hk⟩
structure LrOk (n : Nat) (L : List (List Int)) (used : Nat → Bool) (k m : Nat) (r : List Int) : Prop where
  len : r.length = m
  adj : ∀ i, i < m → nth r i ∈ row L (k + i) ∧ used (nth r i).toNat = false
  inj : ∀ i j, i < j → j < m → nth r i ≠ nth r j
  least : ∀ g, Sdr n L used k g → (∀ i, i < m → nth r i = (g (k + i) : Int)) ∨ ∃ i, i < m ∧ (∀ j, j < i → nth r j = (g (k + j) : Int)) ∧ nth r i < (g (k + i) : Int)
theorem nth_zeroR (z : Int) (r : List Int) : nth (z :: r) 0 = z := rfl
theorem nth_succR (z : Int) (r : List Int) (i : Nat) : nth (z :: r) (i + 1) = nth r i := rfl
theorem lr_spec {n : Nat} {L : List (List Int)} (hL : LOk n L) (ha : Asc L) : ∀ (m k : Nat) (used : Nat → Bool), k + m = n → (∃ g, Sdr n L used k g) → LrOk n L used k m (lrP L n m k used)
  | 0, k, used, _, _ => ⟨rfl, fun i hi => by omega, fun i j _ hj => by omega, fun g _ => .inl fun i hi => by omega⟩
  | m + 1, k, used, hm, ⟨g0, hg0⟩ => by
    rw [lrP]
    have hk : k < n := by omega
    cases hf : (row L k).find? (fun z => !used z.toNat && matP L (setF used z.toNat true) n (k + 1)) with
    | none =>
      exact absurd (pick_some hL hk hg0) (List.find?_eq_none.1 hf _ (hg0.adj k (Nat.le_refl _) hk).1)
    | some z =>
      obtain ⟨hp, la, lb, hrow, hbef⟩ := List.find?_eq_some_iff_append.1 hf
      have hz : z ∈ row L k := by rw [hrow]; simp
      obtain ⟨s, rfl⟩ := Int.eq_ofNat_of_zero_le (hL k z hk hz).1
      rw [Bool.and_eq_true, Int.toNat_natCast] at hp
      have hus : used s = false := by simpa using hp.1
      have ih := lr_spec hL ha m (k + 1) (setF used s true) (by omega) ((matP_iff hL (by omega)).1 hp.2)
      simp only [Int.toNat_natCast]
      generalize lrP L n m (k + 1) (setF used s true) = r at *
      refine ⟨by simp [ih.len], fun i hi => ?_, fun i j hij hj => ?_, fun g hg => ?_⟩
      · cases i with
        | zero => rw [nth_zeroR, Int.toNat_natCast]; exact ⟨hz, hus⟩
        | succ i =>
          obtain ⟨e1, e2⟩ := ih.adj i (by omega)
          rw [nth_succR]
          refine ⟨by rw [show k + (i + 1) = k + 1 + i by omega]; exact e1, ?_⟩
          by_cases e : (nth r i).toNat = s
          · rw [e]; exact hus
          · rwa [setF_ne _ _ e] at e2
      · obtain ⟨j, rfl⟩ : ∃ j', j = j' + 1 := ⟨j - 1, by omega⟩
        rw [nth_succR]
        cases i with
        | zero =>
          rw [nth_zeroR]
          intro e
          have e2 := (ih.adj j (by omega)).2
          rw [← e, Int.toNat_natCast, setF_self] at e2
          cases e2
        | succ i => rw [nth_succR]; exact ih.inj i j (by omega) (by omega)
      · have hgk := (hg.adj k (Nat.le_refl _) hk).1
        have hpk := pick_some hL hk hg
        unfold Adj at hgk
        rw [hrow] at hgk
        rcases List.mem_append.1 hgk with h1 | h1
        · have := hbef _ h1
          rw [hpk] at this
          cases this
        · rcases List.mem_cons.1 h1 with h2 | h2
          · have h3 : g k = s := by omega
            have hn := hg.next hk
            rw [h3] at hn
            rcases ih.least g hn with h4 | ⟨i, hi, h4, h5⟩
            · refine .inl fun i hi => ?_
              cases i with
              | zero => rw [nth_zeroR, Nat.add_zero, h3]
              | succ i => rw [nth_succR, h4 i (by omega), show k + (i + 1) = k + 1 + i by omega]
            · refine .inr ⟨i + 1, by omega, fun j hj => ?_, ?_⟩
              · cases j with
                | zero => rw [nth_zeroR, Nat.add_zero, h3]
                | succ j => rw [nth_succR, h4 j (by omega), show k + (j + 1) = k + 1 + j by omega]
              · rw [nth_succR, show k + (i + 1) = k + 1 + i by omega]; exact h5
          · refine .inr ⟨0, by omega, fun j hj => by omega, ?_⟩
            rw [nth_zeroR, Nat.add_zero]
            have := ha k
            rw [hrow] at this
            exact (List.pairwise_cons.1 (List.pairwise_append.1 this).2.1).1 _ h2
end Go.Proofs.Ytcnjlkabdfcjdaa
