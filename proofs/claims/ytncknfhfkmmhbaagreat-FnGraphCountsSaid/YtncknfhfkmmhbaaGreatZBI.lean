/- The search and relabelings of graphs, plain: its rows are the leaves with the least form. No program in sight. -/
import Derived.Test.YtncknfhfkmmhbaaGreatZBH
set_option linter.unusedVariables false
set_option linter.unusedSimpArgs false
namespace Go.Proofs.YtncknfhfkmmhbaaGreat

/-! the search and relabelings -/
/-- s leads from one graph's vertices to another one's, neighbors to neighbors -/
structure Iso (n : Nat) (es fs : List Ed) (s : List Int) : Prop where
  perm : Perm s
  len : s.length = n
  nb : ∀ x y, x < n → y < n → nbB fs (nth s x).toNat (nth s y).toNat = nbB es x y
theorem Aut.iso {cs : List Int} {es : List Ed} {s : List Int} (h : Aut cs es s) : Iso cs.length es es s := ⟨h.perm, h.len, h.nb⟩
theorem thenP_row (l : List Int) (c : List Int) : thenP l c = l.map fun x => nth c x.toNat := rfl
section
variable {n : Nat} {es fs : List Ed} {s : List Int}
theorem Iso.near (h : Iso n es fs s) {v : Nat} (hv : v < n) : (nearV n fs (nth s v).toNat).Perm ((nearV n es v).map fun x => nth s x.toNat) := by
  have hnd1 : (nearV n fs (nth s v).toNat).Nodup := (nearV_sorted n fs _).imp fun h => by omega
  have hnd2 : ((nearV n es v).map fun x => nth s x.toNat).Nodup := by
    rw [List.Nodup, List.pairwise_map]
    refine List.Pairwise.imp_of_mem ?_ (nearV_sorted n es v)
    intro a b ha hb hab e
    have h1 := nearV_bd ha
    have h2 := nearV_bd hb
    have := perm_inj h.perm (by rw [h.len]; omega) (by rw [h.len]; omega) e
    omega
  refine (List.perm_ext_iff_of_nodup hnd1 hnd2).2 fun x => ?_
  rw [nearV_mem, List.mem_map]
  constructor
  · rintro ⟨b, rfl, hb, hnb⟩
    obtain ⟨u, hu, e⟩ := perm_surj h.perm (i := b) (by rw [h.len]; exact hb)
    rw [h.len] at hu
    refine ⟨u, (nearV_mem n es v _).2 ⟨u, rfl, hu, ?_⟩, by simpa using e⟩
    rw [← h.nb v u hv hu, e]
    simpa using hnb
  · rintro ⟨y, hy, rfl⟩
    obtain ⟨u, rfl, hu, hnb⟩ := (nearV_mem n es v y).1 hy
    have b := perm_lt h.perm (v := u) (by rw [h.len]; exact hu)
    refine ⟨(nth s u).toNat, by simpa using b.2.symm, by rw [← h.len]; exact b.1, ?_⟩
    rw [h.nb v u hv hu]
    exact hnb
/-- cells seen through s -/
theorem Iso.key (h : Iso n es fs s) {c : List Int} (_ : c.length = n) {v : Nat} (hv : v < n) : keyP (nearP n es) (thenP s c) v = keyP (nearP n fs) c (nth s v).toNat := by
  have b := perm_lt h.perm (v := v) (by rw [h.len]; exact hv)
  rw [h.len] at b
  unfold keyP
  rw [thenP_nth (by rw [h.len]; exact hv), nearP_row hv, nearP_row b.1]
  congr 1
  refine srt_perm_eq ?_
  have h1 := (h.near hv).map fun w => nth c w.toNat
  rw [List.map_map] at h1
  refine List.Perm.trans (List.Perm.of_eq ?_) h1.symm
  refine List.map_congr_left fun x hx => ?_
  have hb := nearV_bd hx
  simp only [Function.comp]
  rw [thenP_nth (by rw [h.len]; omega)]
theorem Iso.keys (h : Iso n es fs s) {c : List Int} (hc : c.length = n) (x : List Int) : x ∈ keysP (nearP n es) (thenP s c) ↔ x ∈ keysP (nearP n fs) c := by
  unfold keysP
  rw [List.mem_map, List.mem_map]
  constructor
  · rintro ⟨v, hv, rfl⟩
    have hv : v < n := by simpa [thenP_len, h.len] using hv
    have b := perm_lt h.perm (v := v) (by rw [h.len]; exact hv)
    rw [h.len] at b
    exact ⟨(nth s v).toNat, by simp [hc]; exact b.1, (h.key hc hv).symm⟩
  · rintro ⟨v, hv, rfl⟩
    have hv : v < n := by simpa [hc] using hv
    obtain ⟨u, hu, e⟩ := perm_surj h.perm (i := v) (by rw [h.len]; exact hv)
    rw [h.len] at hu
    refine ⟨u, by simp [thenP_len, h.len]; exact hu, ?_⟩
    rw [h.key hc hu, e]
    simp
theorem Iso.kinds (h : Iso n es fs s) {c : List Int} (hc : c.length = n) : kindsP (nearP n es) (thenP s c) = kindsP (nearP n fs) c :=
  setG_eq cmpL_ord kindsP_strict fun x => ((setG_mem cmpL_ord _ x).trans (h.keys hc x).symm)
theorem Iso.round (h : Iso n es fs s) {c : List Int} (hc : c.length = n) : roundP (nearP n es) (thenP s c) = thenP s (roundP (nearP n fs) c) := by
  refine nth_ext (by rw [roundP_len, thenP_len, thenP_len]) fun v hv => ?_
  rw [roundP_len, thenP_len] at hv
  have b := perm_lt h.perm (v := v) hv
  rw [h.len] at b hv
  rw [roundP_nth (by rw [thenP_len, h.len]; exact hv), thenP_nth (by rw [h.len]; exact hv), roundP_nth (by rw [hc]; exact b.1), h.kinds hc, h.key hc hv]
theorem thenP_perm_list (hs : Perm s) (hl : s.length = n) {c : List Int} (hc : c.length = n) : (thenP s c).Perm c := by
  have h1 := (perm_iota hs).map fun x => nth c x.toNat
  refine List.Perm.trans h1 (List.Perm.of_eq ?_)
  refine nth_ext (by simp [iotaP_len, hl, hc]) fun k hk => ?_
  have hk : k < n := by simpa [iotaP_len, hl] using hk
  have := thenP_nth (p := iotaP s.length) (q := c) (v := k) (by rw [iotaP_len, hl]; exact hk)
  rw [iotaP_nth (by rw [hl]; exact hk)] at this
  simpa [thenP] using this
theorem manyP_perm {l m : List Int} (h : l.Perm m) : manyP l = manyP m := by
  unfold manyP
  rw [setG_eq sgnI_ord (setG_strict sgnI_ord m) fun x => (setG_mem sgnI_ord m x).trans (h.mem_iff).symm]
theorem Iso.many (h : Iso n es fs s) {c : List Int} (hc : c.length = n) : manyP (thenP s c) = manyP c := manyP_perm (thenP_perm_list h.perm h.len hc)
theorem Iso.refF (h : Iso n es fs s) : ∀ (f : Nat) {c : List Int}, c.length = n → Go.Proofs.YtncknfhfkmmhbaaGreat.refF (nearP n es) f (thenP s c) = thenP s (Go.Proofs.YtncknfhfkmmhbaaGreat.refF (nearP n fs) f c)
  | 0, c, hc => h.round hc
  | f + 1, c, hc => by
    rw [Go.Proofs.YtncknfhfkmmhbaaGreat.refF, Go.Proofs.YtncknfhfkmmhbaaGreat.refF, h.round hc, h.many (by rw [roundP_len]; exact hc), h.many hc]
    split
    · rfl
    · exact h.refF f (by rw [roundP_len]; exact hc)
theorem Iso.ref (h : Iso n es fs s) {c : List Int} (hc : c.length = n) : refP (nearP n es) (thenP s c) = thenP s (refP (nearP n fs) c) := by
  unfold refP
  rw [thenP_len, h.len, hc]
  exact h.refF n hc
theorem Iso.tgt (h : Iso n es fs s) {c : List Int} (hc : c.length = n) : tgtP (thenP s c) = tgtP c := by
  have hp := thenP_perm_list h.perm h.len hc
  by_cases hn : tgtP c < 0
  · have h1 := tgtP_neg hn
    rw [tgtP_none (cells := thenP s c) fun d hd => by rw [hp.count_eq]; exact h1 d (by rw [thenP_len, h.len] at hd; omega)]
    have h2 := tgtP_none (cells := c) h1
    rw [h2]
  · obtain ⟨d, e, h1, h2, h3⟩ := tgtP_nonneg hn
    rw [e]
    exact tgtP_val (by rw [thenP_len, h.len]; omega) (by rw [hp.count_eq]; exact h2) fun x hx => by rw [hp.count_eq]; exact h3 x hx
theorem Iso.split (h : Iso n es fs s) {c : List Int} (hc : c.length = n) {v : Nat} (hv : v < n) : splitP (thenP s c) v = thenP s (splitP c (nth s v).toNat) := by
  refine nth_ext (by rw [splitP_len, thenP_len, thenP_len]) fun u hu => ?_
  rw [splitP_len, thenP_len, h.len] at hu
  have b := perm_lt h.perm (v := u) (by rw [h.len]; exact hu)
  have b' := perm_lt h.perm (v := v) (by rw [h.len]; exact hv)
  rw [h.len] at b b'
  rw [splitP_nth (by rw [thenP_len, h.len]; exact hu), thenP_nth (by rw [h.len]; exact hv), thenP_nth (by rw [h.len]; exact hu), thenP_nth (by rw [h.len]; exact hu), splitP_nth (by rw [hc]; exact b.1)]
  by_cases e : u = v
  · rw [if_pos e, if_pos (by rw [e])]
  · rw [if_neg e, if_neg fun e' => e (perm_inj h.perm (by rw [h.len]; exact hu) (by rw [h.len]; exact hv) (by omega))]
end
/-- the leaves below some cells -/
inductive Leaf (near : List (List Int)) : List Int → List Int → Prop
  | here {c : List Int} (h : tgtP c < 0) : Leaf near c c
  | down {c p : List Int} (v : Nat) (h : ¬ tgtP c < 0) (hv : v < c.length) (ht : nth c v = tgtP c) (hp : Leaf near (refP near (splitP c v)) p) : Leaf near c p
theorem Leaf.cells {near : List (List Int)} {n : Nat} {c p : List Int} (h : Leaf near c p) : Cells n c → Cells n p ∧ Perm p := by
  induction h with
  | here h => exact fun hc => ⟨hc, tgtP_perm hc h⟩
  | @down c p v h hv ht hp ih =>
    intro hc
    refine ih ?_
    have := refP_cells near (splitP c v)
    rwa [splitP_len, hc.len] at this
theorem Leaf.iso {n : Nat} {es fs : List Ed} {s : List Int} (hi : Iso n es fs s) {c p : List Int} (h : Leaf (nearP n fs) c p) : c.length = n → Leaf (nearP n es) (thenP s c) (thenP s p) := by
  induction h with
  | here h => exact fun hc => .here (by rw [hi.tgt hc]; exact h)
  | @down c p v h hv ht hp ih =>
    intro hc
    rw [hc] at hv
    obtain ⟨u, hu, e⟩ := perm_surj hi.perm (i := v) (by rw [hi.len]; exact hv)
    rw [hi.len] at hu
    refine .down u (by rw [hi.tgt hc]; exact h) (by rw [thenP_len, hi.len]; exact hu) (by rw [thenP_nth (by rw [hi.len]; exact hu), e, hi.tgt hc]; simpa using ht) ?_
    rw [hi.split hc hu, hi.ref (by rw [splitP_len]; exact hc), e]
    have := ih (by
      have := (refP_cells (nearP n fs) (splitP c v)).len
      rw [this, splitP_len]; exact hc)
    simpa using this
/-! which leaves a search keeps -/
theorem cmpF_zero {c1 c2 : List Int} {e1 e2 : List Ed} (h : cmpF c1 e1 c2 e2 = 0) : c1 = c2 ∧ flatE e1 = flatE e2 := by
  unfold cmpF at h
  split at h
  · rename_i h1; exact absurd h h1
  · rename_i h1
    exact ⟨cmpL_zero (by simpa using h1), cmpL_zero h⟩
theorem flatE_inj {e1 e2 : List Ed} (h : flatE e1 = flatE e2) : e1 = e2 := by
  induction e1 generalizing e2 with
  | nil =>
    cases e2 with
    | nil => rfl
    | cons b r => simp [flatE] at h
  | cons a r ih =>
    cases e2 with
    | nil => simp [flatE] at h
    | cons b r' =>
      simp [flatE] at h
      rw [ih (e2 := r') (by simpa [flatE] using h.2.2)]
      congr 1
      exact Prod.ext h.1 h.2.1
theorem cmpF_self (c : List Int) (e : List Ed) : cmpF c e c e = 0 := by simp [cmpF, cmpL_refl]
theorem cmpF_swap (c1 c2 : List Int) (e1 e2 : List Ed) : cmpF c2 e2 c1 e1 = - cmpF c1 e1 c2 e2 := by
  unfold cmpF
  rw [cmpL_swap c1 c2, cmpL_swap (flatE e1) (flatE e2)]
  split <;> split <;> omega
theorem cmpF_trans {c1 c2 c3 : List Int} {e1 e2 e3 : List Ed} (h1 : cmpF c1 e1 c2 e2 ≤ 0) (h2 : cmpF c2 e2 c3 e3 ≤ 0) : cmpF c1 e1 c3 e3 ≤ 0 := by
  unfold cmpF at *
  by_cases a : cmpL c1 c2 = 0
  · have := cmpL_zero a
    subst this
    rw [if_neg (by simpa using cmpL_refl c1)] at h1
    by_cases b : cmpL c1 c3 = 0
    · have := cmpL_zero b
      subst this
      rw [if_neg (by simpa using cmpL_refl c1)] at h2 ⊢
      exact cmpL_trans h1 h2
    · rw [if_pos b] at h2 ⊢
      exact h2
  · rw [if_pos a] at h1
    by_cases b : cmpL c2 c3 = 0
    · have := cmpL_zero b
      subst this
      rw [if_pos a]
      exact h1
    · rw [if_pos b] at h2
      have h3 := cmpL_ord.lt_trans (x := c1) (y := c2) (z := c3) (by omega) (by omega)
      rw [if_pos (by omega)]
      omega
section
variable (cs : List Int) (es : List Ed)
def formLe (p : List Int) (s : St) : Prop := 0 ≤ cmpF (relC cs p) (relE es p) s.fc s.fe
/-- all leaves of P have been seen -/
structure Seen (P : List Int → Prop) (s : St) : Prop where
  forms : ∀ p ∈ s.best, relC cs p = s.fc ∧ relE es p = s.fe
  all : ∀ p, P p → s.best ≠ [] ∧ formLe cs es p s ∧ (relC cs p = s.fc ∧ relE es p = s.fe → p ∈ s.best)
theorem Seen.leaf {P : List Int → Prop} {s : St} (h : Seen cs es P s) (p : List Int) : Seen cs es (fun q => P q ∨ q = p) (leafP cs es s p) := by
  by_cases hb : s.best = []
  · have hc : leafC cs es s p = -1 := by simp [leafC, hb]
    have e : leafP cs es s p = { s with leaves := s.leaves + 1, fc := relC cs p, fe := relE es p, best := [p] } := by simp [leafP, hc]
    rw [e]
    refine ⟨fun q hq => by rw [List.mem_singleton.1 hq]; exact ⟨rfl, rfl⟩, fun q hq => ⟨by simp, ?_, fun _ => ?_⟩⟩
    · rcases hq with hq | rfl
      · exact absurd hb (h.all q hq).1
      · show 0 ≤ cmpF _ _ _ _
        rw [cmpF_self]; omega
    · rcases hq with hq | rfl
      · exact absurd hb (h.all q hq).1
      · simp
  · have hc : leafC cs es s p = cmpF (relC cs p) (relE es p) s.fc s.fe := by simp [leafC, hb]
    rcases Int.lt_trichotomy (leafC cs es s p) 0 with h1 | h1 | h1
    · have e : leafP cs es s p = { s with leaves := s.leaves + 1, fc := relC cs p, fe := relE es p, best := [p] } := by simp [leafP, h1]
      rw [e]
      refine ⟨fun q hq => by rw [List.mem_singleton.1 hq]; exact ⟨rfl, rfl⟩, fun q hq => ⟨by simp, ?_, fun hf => ?_⟩⟩
      · show 0 ≤ cmpF _ _ _ _
        rcases hq with hq | rfl
        · have h2 := (h.all q hq).2.1
          unfold formLe at h2
          have h3 := cmpF_swap (relC cs q) s.fc (relE es q) s.fe
          have h4 := cmpF_trans (c1 := relC cs p) (e1 := relE es p) (c2 := s.fc) (e2 := s.fe) (c3 := relC cs q) (e3 := relE es q) (by omega) (by omega)
          have h5 := cmpF_swap (relC cs q) (relC cs p) (relE es q) (relE es p)
          show 0 ≤ cmpF (relC cs q) (relE es q) (relC cs p) (relE es p)
          omega
        · rw [cmpF_self]; omega
      · rcases hq with hq | rfl
        · exfalso
          have h2 := (h.all q hq).2.1
          unfold formLe at h2
          simp only [] at hf
          rw [hf.1, hf.2, ← hc] at h2
          omega
        · simp
    · have e : leafP cs es s p = { s with leaves := s.leaves + 1, best := s.best ++ [p] } := by simp [leafP, h1]
      rw [e]
      rw [h1] at hc
      obtain ⟨f1, f2⟩ := cmpF_zero hc.symm
      have f2 := flatE_inj f2
      refine ⟨fun q hq => ?_, fun q hq => ⟨by simp, ?_, fun hf => ?_⟩⟩
      · rcases List.mem_append.1 hq with hq | hq
        · exact h.forms q hq
        · rw [List.mem_singleton.1 hq]; exact ⟨f1, f2⟩
      · rcases hq with hq | rfl
        · exact (h.all q hq).2.1
        · show 0 ≤ cmpF (relC cs q) (relE es q) s.fc s.fe
          omega
      · rcases hq with hq | rfl
        · exact List.mem_append_left _ ((h.all q hq).2.2 hf)
        · simp
    · have e : leafP cs es s p = { s with leaves := s.leaves + 1 } := by
        have a1 : ¬ leafC cs es s p < 0 := by omega
        have a2 : ¬ leafC cs es s p = 0 := by omega
        simp only [leafP, if_neg a1, if_neg a2]
      rw [e]
      refine ⟨h.forms, fun q hq => ⟨hb, ?_, fun hf => ?_⟩⟩
      · rcases hq with hq | rfl
        · exact (h.all q hq).2.1
        · show 0 ≤ cmpF (relC cs q) (relE es q) s.fc s.fe
          omega
      · rcases hq with hq | rfl
        · exact (h.all q hq).2.2 hf
        · exfalso
          simp only [] at hf
          rw [hf.1, hf.2, cmpF_self] at hc
          omega
theorem Seen.weak {P Q : List Int → Prop} {s : St} (h : Seen cs es P s) (hQ : ∀ p, Q p → P p) : Seen cs es Q s := ⟨h.forms, fun p hp => h.all p (hQ p hp)⟩
theorem Seen.next {P : List Int → Prop} {s t : St} (h : Seen cs es P s) (h1 : t.best = s.best) (h2 : t.fc = s.fc) (h3 : t.fe = s.fe) : Seen cs es P t := by
  obtain ⟨a, b⟩ := h
  refine ⟨fun p hp => ?_, fun p hp => ?_⟩
  · rw [h2, h3]; exact a p (by rw [← h1]; exact hp)
  · unfold formLe
    rw [h1, h2, h3]
    exact b p hp
theorem loopP_seen {n : Nat} {near : List (List Int)} {sub : St → List Int → St} {cells : List Int} {f : Nat} (hn : cells.length = n)
    (hk : ∀ s c, s.left < f → Cells n c → Kept1 n s (sub s c))
    (hsub : ∀ s c P, s.left < f → Cells n c → Seen cs es P s → (sub s c).spent = false → s.spent = false → Seen cs es (fun q => P q ∨ Leaf near c q) (sub s c)) :
    ∀ (vs : List Int) (s : St) (P : List Int → Prop), s.left ≤ f → Seen cs es P s → (loopP near sub cells vs s).spent = false → Seen cs es (fun q => P q ∨ ∃ v ∈ vs, Leaf near (refP near (splitP cells v.toNat)) q) (loopP near sub cells vs s)
  | [], s, P, _, h, _ => h.weak cs es fun p hp => hp.elim id fun ⟨v, hv, _⟩ => by cases hv
  | x :: r, s, P, hl, h, hs => by
    rw [loopP] at hs ⊢
    by_cases h1 : s.spent = true
    · rw [if_pos h1] at hs
      rw [h1] at hs; cases hs
    · rw [if_neg h1] at hs ⊢
      by_cases h2 : s.left = 0
      · rw [if_pos h2] at hs
        cases hs
      · rw [if_neg h2] at hs ⊢
        have hc : Cells n (refP near (splitP cells x.toNat)) := by
          have := refP_cells near (splitP cells x.toNat)
          rwa [splitP_len, hn] at this
        have k1 := (hk { s with left := s.left - 1, nodes := s.nodes + 1 } _ (by simp only []; omega) hc).left
        have k2 := hsub { s with left := s.left - 1, nodes := s.nodes + 1 } _ P (by simp only []; omega) hc (h.next cs es rfl rfl rfl)
        generalize sub { s with left := s.left - 1, nodes := s.nodes + 1 } (refP near (splitP cells x.toNat)) = t at *
        simp only [] at k1
        have ht : t.spent = false := by
          cases hq : t.spent with
          | false => rfl
          | true =>
            exfalso
            cases r with
            | nil => rw [loopP] at hs; rw [hq] at hs; cases hs
            | cons y r' => rw [loopP, if_pos hq] at hs; rw [hq] at hs; cases hs
        have k3 := k2 ht (by simpa using h1)
        have k4 := loopP_seen hn hk hsub r t _ (by omega) k3 hs
        refine k4.weak cs es fun p hp => ?_
        rcases hp with hp | ⟨v, hv, hp⟩
        · exact .inl (.inl hp)
        · rcases List.mem_cons.1 hv with rfl | hv
          · exact .inl (.inr hp)
          · exact .inr ⟨v, hv, hp⟩
theorem vertsP_at {cells : List Int} {t : Int} {v : Nat} (hv : v < cells.length) (ht : nth cells v = t) : (v : Int) ∈ vertsP cells t := by
  unfold vertsP vF
  exact List.mem_map.2 ⟨v, List.mem_filter.2 ⟨by simpa using hv, by simpa using ht⟩, rfl⟩
theorem searchP_seen {n : Nat} (near : List (List Int)) : ∀ (f : Nat) (s : St) (cells : List Int) (P : List Int → Prop), s.left ≤ f → Cells n cells → Seen cs es P s → (searchP cs es near f s cells).spent = false →
    Seen cs es (fun q => P q ∨ Leaf near cells q) (searchP cs es near f s cells)
  | 0, s, cells, P, hl, hc, h, hs => by
    rw [searchP] at hs ⊢
    by_cases ht : tgtP cells < 0
    · rw [if_pos ht] at hs ⊢
      refine (h.leaf cs es cells).weak cs es fun p hp => hp.imp_right fun hp => ?_
      cases hp with
      | here _ => rfl
      | down _ h' => exact absurd ht h'
    · rw [if_neg ht] at hs ⊢
      have := loopP_seen cs es (near := near) (f := 0) (sub := fun s _ => s) hc.len (fun s c h _ => absurd h (by omega)) (fun s c P h => absurd h (by omega)) (vertsP cells (tgtP cells)) s P hl h hs
      refine this.weak cs es fun p hp => hp.imp_right fun hp => ?_
      cases hp with
      | here h' => exact absurd h' ht
      | down v _ hv hvt hp => exact ⟨v, vertsP_at hv hvt, by simpa using hp⟩
  | f + 1, s, cells, P, hl, hc, h, hs => by
    rw [searchP] at hs ⊢
    by_cases ht : tgtP cells < 0
    · rw [if_pos ht] at hs ⊢
      refine (h.leaf cs es cells).weak cs es fun p hp => hp.imp_right fun hp => ?_
      cases hp with
      | here _ => rfl
      | down _ h' => exact absurd ht h'
    · rw [if_neg ht] at hs ⊢
      have := loopP_seen cs es (near := near) (f := f + 1) (sub := searchP cs es near f) hc.len (fun s c h hc => searchP_kept cs es near f s c (by omega) hc) (fun s c P h hc hp hs _ => searchP_seen near f s c P (by omega) hc hp hs) (vertsP cells (tgtP cells)) s P hl h hs
      refine this.weak cs es fun p hp => hp.imp_right fun hp => ?_
      cases hp with
      | here h' => exact absurd h' ht
      | down v _ hv hvt hp => exact ⟨v, vertsP_at hv hvt, by simpa using hp⟩
/-- the rows of a search are the leaves with the least form -/
theorem runP_seen {b : Nat} (h : (runP cs es b).spent = false) : Seen cs es (Leaf (nearP cs.length es) (refP (nearP cs.length es) cs)) (runP cs es b) := by
  have h0 : Seen cs es (fun _ => False) ⟨b, false, 0, 0, [], [], []⟩ := by
    refine ⟨fun p h => ?_, fun p h => ?_⟩
    · cases h
    · exact h.elim
  exact (searchP_seen cs es (nearP cs.length es) b _ _ _ (Nat.le_refl _) (refP_cells _ _) h0 h).weak cs es fun p hp => .inr hp
/-- .. and they are leaves -/
theorem loopP_from {n : Nat} {near : List (List Int)} {sub : St → List Int → St} {cells : List Int} {f : Nat} (hn : cells.length = n) (Q : List Int → Prop)
    (hk : ∀ s c, s.left < f → Cells n c → Kept1 n s (sub s c)) :
    ∀ (vs : List Int) (s : St), s.left ≤ f → (∀ v ∈ vs, ∀ s, s.left < f → (∀ p ∈ s.best, Q p) → ∀ p ∈ (sub s (refP near (splitP cells v.toNat))).best, Q p) → (∀ p ∈ s.best, Q p) → ∀ p ∈ (loopP near sub cells vs s).best, Q p
  | [], s, _, _, h => h
  | x :: r, s, hl, hsub, h => by
    rw [loopP]
    by_cases h1 : s.spent = true
    · rw [if_pos h1]; exact h
    · rw [if_neg h1]
      by_cases h2 : s.left = 0
      · rw [if_pos h2]; exact h
      · rw [if_neg h2]
        have hc : Cells n (refP near (splitP cells x.toNat)) := by
          have := refP_cells near (splitP cells x.toNat)
          rwa [splitP_len, hn] at this
        have k1 := (hk { s with left := s.left - 1, nodes := s.nodes + 1 } _ (by simp only []; omega) hc).left
        have k2 := hsub x List.mem_cons_self { s with left := s.left - 1, nodes := s.nodes + 1 } (by simp only []; omega) h
        simp only [] at k1
        exact loopP_from hn Q hk r _ (by omega) (fun v hv => hsub v (List.mem_cons_of_mem _ hv)) k2
theorem leafP_from (Q : List Int → Prop) {s : St} {p : List Int} (h : ∀ q ∈ s.best, Q q) (hp : Q p) : ∀ q ∈ (leafP cs es s p).best, Q q := by
  intro q hq
  unfold leafP at hq
  simp only [] at hq
  split at hq
  · rw [List.mem_singleton.1 hq]; exact hp
  · split at hq
    · rcases List.mem_append.1 hq with hq | hq
      · exact h q hq
      · rw [List.mem_singleton.1 hq]; exact hp
    · exact h q hq
theorem searchP_from {n : Nat} (near : List (List Int)) (Q : List Int → Prop) : ∀ (f : Nat) (s : St) (cells : List Int), s.left ≤ f → Cells n cells → (∀ p ∈ s.best, Q p) → (∀ p, Leaf near cells p → Q p) → ∀ p ∈ (searchP cs es near f s cells).best, Q p
  | 0, s, cells, hl, hc, h, hq => by
    rw [searchP]
    split
    · rename_i ht; exact leafP_from cs es Q h (hq _ (.here ht))
    · exact loopP_from (near := near) (f := 0) (sub := fun s _ => s) hc.len Q (fun s c h _ => absurd h (by omega)) _ s hl (fun v _ s h => absurd h (by omega)) h
  | f + 1, s, cells, hl, hc, h, hq => by
    rw [searchP]
    split
    · rename_i ht; exact leafP_from cs es Q h (hq _ (.here ht))
    · rename_i ht
      refine loopP_from (near := near) (f := f + 1) (sub := searchP cs es near f) hc.len Q (fun s c h hc => searchP_kept cs es near f s c (by omega) hc) _ s hl (fun v hv s hs hp => ?_) h
      obtain ⟨u, rfl, hu, hut⟩ := vertsP_mem hv
      refine searchP_from (n := n) near Q f s _ (by omega) ?_ hp fun p hp => hq p (.down u ht hu hut (by simpa using hp))
      have := refP_cells near (splitP cells ((u : Int).toNat))
      rwa [splitP_len, hc.len] at this
theorem runP_leaf (b : Nat) : ∀ p ∈ (runP cs es b).best, Leaf (nearP cs.length es) (refP (nearP cs.length es) cs) p :=
  searchP_from cs es (nearP cs.length es) _ b _ _ (Nat.le_refl _) (refP_cells _ _) (fun _ h => by cases h) fun _ h => h
end
end Go.Proofs.YtncknfhfkmmhbaaGreat
/- The automorphisms that a search finds are all of them, plain. No program in sight. -/
namespace Go.Proofs.YtncknfhfkmmhbaaGreat

/-! the automorphisms that a search finds are all of them -/
/-- from a row of a search to an automorphism -/
def autP (s : St) (p : List Int) : List Int := thenP p (invP (row s.best 0))
def autsP (s : St) : List (List Int) := s.best.map (autP s)
theorem perm_ext_nth {n : Nat} {p q : List Int} (hp : p.length = n) (hq : q.length = n) (h : ∀ v, v < n → nth p v = nth q v) : p = q :=
  nth_ext (by omega) fun k hk => h k (by omega)
theorem row0_mem {l : List (List Int)} (h : l ≠ []) : row l 0 ∈ l := by
  cases l with
  | nil => exact absurd rfl h
  | cons a r => simp [row]
section
variable {cs : List Int} {es : List Ed} {b : Nat}
theorem aut_nth {n : Nat} {p q : List Int} (hp : Perm p) (hq : Perm q) (hl : p.length = n) (hm : q.length = n) {v : Nat} (hv : v < n) :
    ∃ u, u < n ∧ nth (thenP p (invP q)) v = u ∧ nth q u = nth p v := by
  have b := perm_lt hp (v := v) (by omega)
  obtain ⟨u, hu, e⟩ := perm_surj hq (i := (nth p v).toNat) (by omega)
  refine ⟨u, by omega, ?_, by omega⟩
  have := invP_nth hq hu
  rw [e, Int.toNat_natCast] at this
  rw [thenP_nth (by omega)]
  exact this
theorem autP_aut (he : EdgesOk cs.length es) (h : (runP cs es b).spent = false) {p : List Int} (hp : p ∈ (runP cs es b).best) : Aut cs es (autP (runP cs es b) p) := by
  have hq := row0_mem (runP_best h)
  have hs := runP_seen (cs := cs) (es := es) h
  obtain ⟨c1, p1⟩ := runP_rows cs es b p hp
  obtain ⟨c2, p2⟩ := runP_rows cs es b _ hq
  obtain ⟨a1, a2⟩ := hs.forms p hp
  obtain ⟨b1, b2⟩ := hs.forms _ hq
  unfold autP
  generalize row (runP cs es b).best 0 = q at *
  have hc := (relC_same (cs := cs) (ds := cs) rfl rfl p1 c1.len p2 c2.len).1 (a1.trans b1.symm)
  have hn := (relE_same he he p1 c1.len p2 c2.len).1 (a2.trans b2.symm)
  refine ⟨thenP_perm p1 (invP_perm p2) (by rw [invP_len, c1.len, c2.len]), by rw [thenP_len, c1.len], fun v hv => ?_, fun x y hx hy => ?_⟩
  · obtain ⟨u, hu, e1, e2⟩ := aut_nth p1 p2 c1.len c2.len hv
    rw [e1]
    exact (hc v u hv hu e2.symm).symm
  · obtain ⟨u, hu, e1, e2⟩ := aut_nth p1 p2 c1.len c2.len hx
    obtain ⟨w, hw, e3, e4⟩ := aut_nth p1 p2 c1.len c2.len hy
    rw [e1, e3]
    exact (hn x y u w hx hy hu hw e2.symm e4.symm).symm
theorem aut_autP (he : EdgesOk cs.length es) (h : (runP cs es b).spent = false) {s : List Int} (ha : Aut cs es s) : ∃ p ∈ (runP cs es b).best, autP (runP cs es b) p = s := by
  have hq := row0_mem (runP_best h)
  have hs := runP_seen (cs := cs) (es := es) h
  have hlf := runP_leaf cs es b _ hq
  obtain ⟨c2, p2⟩ := runP_rows cs es b _ hq
  obtain ⟨b1, b2⟩ := hs.forms _ hq
  unfold autP
  generalize row (runP cs es b).best 0 = q at *
  have hcs : thenP s cs = cs := perm_ext_nth (n := cs.length) (by rw [thenP_len, ha.len]) rfl fun v hv => by
    rw [thenP_nth (by rw [ha.len]; exact hv), ha.col v hv]
  have h1 := Leaf.iso ha.iso hlf (by rw [(refP_cells _ _).len])
  rw [← ha.iso.ref rfl, hcs] at h1
  have hpp : Perm (thenP s q) := thenP_perm ha.perm p2 (by rw [ha.len, c2.len])
  have hpl : (thenP s q).length = cs.length := by rw [thenP_len, ha.len]
  have hx : ∀ x x', x < cs.length → x' < cs.length → nth (thenP s q) x = nth q x' → (nth s x).toNat = x' := fun x x' hx hx' e => by
    rw [thenP_nth (by rw [ha.len]; exact hx)] at e
    have b := perm_lt ha.perm (v := x) (by rw [ha.len]; exact hx)
    rw [ha.len] at b
    exact perm_inj p2 (by rw [c2.len]; omega) (by rw [c2.len]; exact hx') e
  have f1 : relC cs (thenP s q) = (runP cs es b).fc := by
    rw [← b1]
    refine (relC_same rfl rfl hpp hpl p2 c2.len).2 fun x x' h1 h2 e => ?_
    rw [← hx x x' h1 h2 e, ha.col x h1]
  have f2 : relE es (thenP s q) = (runP cs es b).fe := by
    rw [← b2]
    refine (relE_same he he hpp hpl p2 c2.len).2 fun x y x' y' h1 h2 h3 h4 e1 e2 => ?_
    rw [← hx x x' h1 h3 e1, ← hx y y' h2 h4 e2, ha.nb x y h1 h2]
  refine ⟨_, (hs.all _ h1).2.2 ⟨f1, f2⟩, ?_⟩
  refine perm_ext_nth (n := cs.length) (by rw [thenP_len, hpl]) ha.len fun v hv => ?_
  obtain ⟨u, hu, e1, e2⟩ := aut_nth hpp p2 hpl c2.len hv
  have := hx v u hv hu e2.symm
  have b := perm_lt ha.perm (v := v) (by rw [ha.len]; exact hv)
  rw [e1]
  omega
theorem autsP_mem (he : EdgesOk cs.length es) (h : (runP cs es b).spent = false) (s : List Int) : s ∈ autsP (runP cs es b) ↔ Aut cs es s := by
  unfold autsP
  rw [List.mem_map]
  constructor
  · rintro ⟨p, hp, rfl⟩
    exact autP_aut he h hp
  · exact aut_autP he h
theorem autP_inj (h : (runP cs es b).spent = false) {p q : List Int} (hp : p ∈ (runP cs es b).best) (hq : q ∈ (runP cs es b).best) (e : autP (runP cs es b) p = autP (runP cs es b) q) : p = q := by
  have h0 := row0_mem (runP_best h)
  obtain ⟨c1, p1⟩ := runP_rows cs es b p hp
  obtain ⟨c2, p2⟩ := runP_rows cs es b q hq
  obtain ⟨c0, p0⟩ := runP_rows cs es b _ h0
  unfold autP at e
  generalize row (runP cs es b).best 0 = r at *
  refine perm_ext_nth c1.len c2.len fun v hv => ?_
  obtain ⟨u, hu, e1, e2⟩ := aut_nth p1 p0 c1.len c0.len hv
  obtain ⟨w, hw, e3, e4⟩ := aut_nth p2 p0 c2.len c0.len hv
  rw [e, e3] at e1
  have : u = w := by omega
  subst this
  rw [← e2, e4]
theorem autsP_nodup (h : (runP cs es b).spent = false) : (autsP (runP cs es b)).Nodup := by
  unfold autsP
  rw [List.Nodup, List.pairwise_map]
  refine List.Pairwise.imp_of_mem ?_ (runP_nodup cs es b)
  intro p q hp hq hne e
  exact hne (autP_inj h hp hq e)
/-- automorphisms are a group -/
theorem Aut.id (cs : List Int) (es : List Ed) : Aut cs es (iotaP cs.length) :=
  ⟨iotaP_perm _, iotaP_len _, fun v hv => by rw [iotaP_nth hv]; simp, fun x y hx hy => by rw [iotaP_nth hx, iotaP_nth hy]; simp⟩
theorem Aut.comp {s t : List Int} (hs : Aut cs es s) (ht : Aut cs es t) : Aut cs es (thenP s t) := by
  have hb : ∀ {v}, v < cs.length → (nth s v).toNat < cs.length := fun {v} hv => by have := perm_lt hs.perm (v := v) (by rw [hs.len]; exact hv); rw [hs.len] at this; exact this.1
  refine ⟨thenP_perm hs.perm ht.perm (by rw [hs.len, ht.len]), by rw [thenP_len, hs.len], fun v hv => ?_, fun x y hx hy => ?_⟩
  · rw [thenP_nth (by rw [hs.len]; exact hv), ht.col _ (hb hv), hs.col v hv]
  · rw [thenP_nth (by rw [hs.len]; exact hx), thenP_nth (by rw [hs.len]; exact hy), ht.nb _ _ (hb hx) (hb hy), hs.nb x y hx hy]
theorem Aut.inv {s : List Int} (hs : Aut cs es s) : Aut cs es (invP s) := by
  have key : ∀ v, v < cs.length → ∃ u, u < cs.length ∧ nth s u = v ∧ nth (invP s) v = u := fun v hv => by
    obtain ⟨u, hu, e⟩ := perm_surj hs.perm (i := v) (by rw [hs.len]; exact hv)
    refine ⟨u, by rw [← hs.len]; exact hu, e, ?_⟩
    have := invP_nth hs.perm hu
    rw [e] at this
    simpa using this
  refine ⟨invP_perm hs.perm, by rw [invP_len, hs.len], fun v hv => ?_, fun x y hx hy => ?_⟩
  · obtain ⟨u, hu, e1, e2⟩ := key v hv
    rw [e2]
    have := hs.col u hu
    rw [e1] at this
    simpa using this.symm
  · obtain ⟨u, hu, e1, e2⟩ := key x hx
    obtain ⟨w, hw, e3, e4⟩ := key y hy
    rw [e2, e4]
    have := hs.nb u w hu hw
    rw [e1, e3] at this
    simpa using this.symm
end
end Go.Proofs.YtncknfhfkmmhbaaGreat
