/- Plain law: a list finds a symbol of its own, where others may give theirs up. No program in sight. -/
import Derived.Test.YtcnjlkabdfcjdaaZAP
set_option linter.unusedVariables false
set_option linter.unusedSimpArgs false
namespace Go.Proofs.Ytcnjlkabdfcjdaa

/-- who owns each symbol (-1: nobody), which symbols have been tried -/
structure ASt where
  owner : Nat → Int
  tried : Nat → Bool
def setF {α : Type} (f : Nat → α) (s : Nat) (v : α) : Nat → α := fun t => if t = s then v else f t
theorem setF_self {α : Type} (f : Nat → α) (s : Nat) (v : α) : setF f s v s = v := by simp [setF]
theorem setF_ne {α : Type} (f : Nat → α) {s t : Nat} (v : α) (h : t ≠ s) : setF f s v t = f t := by simp [setF, h]
def augL (sub : Nat → ASt → Bool × ASt) (used : Nat → Bool) (k : Nat) : List Int → ASt → Bool × ASt
  | [], st => (false, st)
  | z :: r, st =>
    if used z.toNat = true ∨ st.tried z.toNat = true then augL sub used k r st
    else if st.owner z.toNat < 0 then (true, ⟨setF st.owner z.toNat (k : Int), setF st.tried z.toNat true⟩)
    else if (sub (st.owner z.toNat).toNat ⟨st.owner, setF st.tried z.toNat true⟩).1 = true then (true, ⟨setF (sub (st.owner z.toNat).toNat ⟨st.owner, setF st.tried z.toNat true⟩).2.owner z.toNat (k : Int), (sub (st.owner z.toNat).toNat ⟨st.owner, setF st.tried z.toNat true⟩).2.tried⟩)
    else augL sub used k r (sub (st.owner z.toNat).toNat ⟨st.owner, setF st.tried z.toNat true⟩).2
def augP (L : List (List Int)) (used : Nat → Bool) : Nat → Nat → ASt → Bool × ASt
  | 0, _, st => (false, st)
  | f + 1, k, st => augL (augP L used f) used k (row L k) st
/-- how many symbols have not been tried -/
def unT (n : Nat) (T : Nat → Bool) : Nat := ((List.range n).filter fun s => !T s).length
theorem unT_put {n s : Nat} {T : Nat → Bool} (hs : s < n) (h : T s = false) : unT n (setF T s true) + 1 ≤ unT n T := by
  have hnd : (s :: (List.range n).filter fun t => !(setF T s true) t).Nodup := by
    refine List.nodup_cons.2 ⟨fun hm => ?_, List.Pairwise.filter _ List.nodup_range⟩
    have := (List.mem_filter.1 hm).2
    rw [setF_self] at this
    cases this
  have hsub : (s :: (List.range n).filter fun t => !(setF T s true) t) ⊆ (List.range n).filter fun t => !T t := fun t ht => by
    rcases List.mem_cons.1 ht with rfl | ht
    · exact List.mem_filter.2 ⟨List.mem_range.2 hs, by rw [h]; rfl⟩
    · obtain ⟨h1, h2⟩ := List.mem_filter.1 ht
      refine List.mem_filter.2 ⟨h1, ?_⟩
      by_cases e : t = s
      · subst e; rw [setF_self] at h2; cases h2
      · rwa [setF_ne _ _ e] at h2
  have := List.Nodup.length_le_of_subset hnd hsub
  simpa [unT] using this
theorem unT_le {n : Nat} {T U : Nat → Bool} (h : ∀ s, T s = true → U s = true) : unT n U ≤ unT n T := by
  refine List.Nodup.length_le_of_subset (List.Pairwise.filter _ List.nodup_range) fun t ht => ?_
  obtain ⟨h1, h2⟩ := List.mem_filter.1 ht
  refine List.mem_filter.2 ⟨h1, ?_⟩
  cases hT : T t with
  | false => rfl
  | true => rw [h t hT] at h2; cases h2
/-- a list has a symbol -/
def Adj (L : List (List Int)) (j s : Nat) : Prop := ((s : Nat) : Int) ∈ row L j
def LOk (n : Nat) (L : List (List Int)) : Prop := ∀ j z, j < n → z ∈ row L j → 0 ≤ z ∧ z < (n : Int)
structure Pre (n : Nat) (L : List (List Int)) (used : Nat → Bool) (o : Nat → Int) (T : Nat → Bool) : Prop where
  val : ∀ s, s < n → T s = false → o s = -1 ∨ ∃ j : Nat, o s = (j : Int) ∧ j < n ∧ Adj L j s ∧ used s = false
  inj : ∀ s t, s < n → t < n → T s = false → T t = false → o s ≠ -1 → o s = o t → s = t
structure Suc (n : Nat) (L : List (List Int)) (used : Nat → Bool) (o : Nat → Int) (T : Nat → Bool) (k : Nat) (o' : Nat → Int) : Prop where
  keep : ∀ s, T s = true → o' s = o s
  pre : Pre n L used o' T
  im : ∀ j : Nat, (∃ s, s < n ∧ T s = false ∧ o' s = (j : Int)) ↔ ((∃ s, s < n ∧ T s = false ∧ o s = (j : Int)) ∨ j = k)
def Clos (n : Nat) (L : List (List Int)) (used : Nat → Bool) (o : Nat → Int) (T T' : Nat → Bool) : Prop :=
  ∀ s, s < n → T' s = true → T s = false → ∃ j : Nat, j < n ∧ o s = (j : Int) ∧ ∀ u, Adj L j u → used u = false → T' u = true
structure Fai (n : Nat) (L : List (List Int)) (used : Nat → Bool) (o : Nat → Int) (T : Nat → Bool) (k : Nat) (T' : Nat → Bool) : Prop where
  mono : ∀ s, T s = true → T' s = true
  here : ∀ u, Adj L k u → used u = false → T' u = true
  clos : Clos n L used o T T'
/-- what an attempt says -/
def Spec (n : Nat) (L : List (List Int)) (used : Nat → Bool) (o : Nat → Int) (T : Nat → Bool) (k : Nat) (r : Bool × ASt) : Prop :=
  (r.1 = true → Suc n L used o T k r.2.owner) ∧ (r.1 = false → r.2.owner = o ∧ Fai n L used o T k r.2.tried)
theorem augL_spec {n : Nat} {L : List (List Int)} {used : Nat → Bool} (hL : LOk n L) {sub : Nat → ASt → Bool × ASt} {f k : Nat} (hk : k < n)
    (hsub : ∀ j st, j < n → unT n st.tried ≤ f → Pre n L used st.owner st.tried → (∀ s, s < n → st.tried s = false → st.owner s ≠ (j : Int)) → Spec n L used st.owner st.tried j (sub j st)) (o : Nat → Int) (T : Nat → Bool) (hp : Pre n L used o T) (hout : ∀ s, s < n → T s = false → o s ≠ (k : Int)) :
    ∀ (l pre : List Int), row L k = pre ++ l → ∀ (Ti : Nat → Bool), (∀ s, T s = true → Ti s = true) → (∀ z ∈ pre, used z.toNat = true ∨ Ti z.toNat = true) → Clos n L used o T Ti → unT n Ti ≤ f + 1 → Spec n L used o T k (augL sub used k l ⟨o, Ti⟩)
  | [], pre, hr, Ti, hm, hd, hc, hu => by
    rw [augL]
    refine ⟨fun h => absurd h (by simp), fun _ => ⟨rfl, hm, fun u hadj hus => ?_, hc⟩⟩
    rw [List.append_nil] at hr
    have := hd (u : Int) (by rw [← hr]; exact hadj)
    rw [Int.toNat_natCast, hus] at this
    exact this.resolve_left (by simp)
  | z :: r, pre, hr, Ti, hm, hd, hc, hu => by
    have hz := hL k z hk (by rw [hr]; simp)
    obtain ⟨s, rfl⟩ := Int.eq_ofNat_of_zero_le hz.1
    have hsn : s < n := by omega
    have hadj : Adj L k s := by unfold Adj; rw [hr]; simp
    rw [augL]
    simp only [Int.toNat_natCast]
    by_cases h1 : used s = true ∨ Ti s = true
    · rw [if_pos h1]
      refine augL_spec hL hk hsub o T hp hout r (pre ++ [(s : Int)]) (by rw [hr]; simp) Ti hm (fun z hz => ?_) hc hu
      rcases List.mem_append.1 hz with h | h
      · exact hd z h
      · rw [List.mem_singleton.1 h, Int.toNat_natCast]; exact h1
    · rw [if_neg h1]
      have hus : used s = false := by
        cases e : used s with
        | false => rfl
        | true => exact absurd (.inl e) h1
      have hTi : Ti s = false := by
        cases e : Ti s with
        | false => rfl
        | true => exact absurd (.inr e) h1
      have hTs : T s = false := by
        cases e : T s with
        | false => rfl
        | true => rw [hm s e] at hTi; cases hTi
      by_cases h2 : o s < 0
      · rw [if_pos h2]
        have hos : o s = -1 := by
          rcases hp.val s hsn hTs with h | ⟨j, h, _⟩
          · exact h
          · omega
        refine ⟨fun _ => ⟨fun t ht => ?_, ⟨fun t ht hT => ?_, fun t u ht hu2 hT hU hne he => ?_⟩, fun j => ⟨?_, ?_⟩⟩, fun h => absurd h (by simp)⟩
        · exact setF_ne _ _ (fun e => by rw [e, hTs] at ht; cases ht)
        · by_cases e : t = s
          · subst e
            exact .inr ⟨k, setF_self _ _ _, hk, hadj, hus⟩
          · simp only [setF_ne _ _ e]
            exact hp.val t ht hT
        · simp only [] at hne he
          by_cases e : t = s
          · by_cases e2 : u = s
            · rw [e, e2]
            · rw [e, setF_self, setF_ne _ _ e2] at he
              exact absurd he.symm (hout u hu2 hU)
          · rw [setF_ne _ _ e] at hne he
            by_cases e2 : u = s
            · rw [e2, setF_self] at he
              exact absurd he (hout t ht hT)
            · rw [setF_ne _ _ e2] at he
              exact hp.inj t u ht hu2 hT hU hne he
        · rintro ⟨t, ht, hT, e⟩
          simp only [] at e
          by_cases e2 : t = s
          · rw [e2, setF_self] at e
            exact .inr (by omega)
          · rw [setF_ne _ _ e2] at e
            exact .inl ⟨t, ht, hT, e⟩
        · rintro (⟨t, ht, hT, e⟩ | rfl)
          · refine ⟨t, ht, hT, ?_⟩
            simp only []
            rw [setF_ne _ _ (fun e2 => by rw [e2, hos] at e; omega)]
            exact e
          · exact ⟨s, hsn, hTs, setF_self _ _ _⟩
      · rw [if_neg h2]
        obtain ⟨j, hj, hjn, hadj2, -⟩ : ∃ j : Nat, o s = (j : Int) ∧ j < n ∧ Adj L j s ∧ used s = false := by
          rcases hp.val s hsn hTs with h | h
          · omega
          · exact h
        rw [hj, Int.toNat_natCast]
        have hU1 : ∀ t, (setF Ti s true) t = false → t ≠ s ∧ Ti t = false := fun t ht => by
          by_cases e : t = s
          · rw [e, setF_self] at ht; cases ht
          · rw [setF_ne _ _ e] at ht; exact ⟨e, ht⟩
        have hTT : ∀ t, Ti t = false → T t = false := fun t ht => by
          cases e : T t with
          | false => rfl
          | true => rw [hm t e] at ht; cases ht
        have hpre1 : Pre n L used o (setF Ti s true) := ⟨fun t ht hT => hp.val t ht (hTT t (hU1 t hT).2), fun t u ht hu2 hT hU => hp.inj t u ht hu2 (hTT t (hU1 t hT).2) (hTT u (hU1 u hU).2)⟩
        have hsp := hsub j ⟨o, setF Ti s true⟩ hjn (by have := unT_put hsn hTi; simp only []; omega) hpre1 (fun t ht hT e => by
          obtain ⟨e1, e2⟩ := hU1 t hT
          exact e1 (hp.inj t s ht hsn (hTT t e2) hTs (by simp only [] at e; omega) (by simp only [] at e; rw [e, hj])))
        generalize sub j ⟨o, setF Ti s true⟩ = res at *
        obtain ⟨b, st2⟩ := res
        by_cases hb : b = true
        · rw [if_pos hb]
          have hS := hsp.1 hb
          simp only [] at hS
          have k1 : ∀ t, Ti t = true → st2.owner t = o t := fun t ht => hS.keep t (by
            by_cases e : t = s
            · rw [e, setF_self]
            · rw [setF_ne _ _ e]; exact ht)
          -- a symbol not tried is either tried since, or this one, or still untried
          have him : ∀ t : Nat, t < n → Ti t = false → t ≠ s → st2.owner t ≠ -1 → (∃ u, u < n ∧ Ti u = false ∧ u ≠ s ∧ o u = st2.owner t) ∨ st2.owner t = (j : Int) := fun t ht hT hts hne => by
            have ht1 : (setF Ti s true) t = false := by rw [setF_ne _ _ hts]; exact hT
            rcases hS.pre.val t ht ht1 with h | ⟨q, hq, -, -, -⟩
            · exact absurd h hne
            · rcases (hS.im q).1 ⟨t, ht, ht1, hq⟩ with ⟨u, hu2, hU, e⟩ | e
              · obtain ⟨e1, e2⟩ := hU1 u hU
                exact .inl ⟨u, hu2, e2, e1, by rw [e, hq]⟩
              · exact .inr (by rw [hq, e])
          refine ⟨fun _ => ⟨fun t ht => ?_, ⟨fun t ht hT => ?_, fun t u ht hu2 hT hU hne he => ?_⟩, fun q => ⟨?_, ?_⟩⟩, fun h => absurd h (by simp)⟩
          · simp only []
            rw [setF_ne _ _ (fun e => by rw [e, hTs] at ht; cases ht)]
            exact k1 t (hm t ht)
          · simp only []
            by_cases e : t = s
            · subst e
              exact .inr ⟨k, setF_self _ _ _, hk, hadj, hus⟩
            · rw [setF_ne _ _ e]
              cases hTt : Ti t with
              | true => rw [k1 t hTt]; exact hp.val t ht hT
              | false => exact hS.pre.val t ht (by rw [setF_ne _ _ e]; exact hTt)
          · simp only [] at hne he
            -- what the new owner of a symbol other than s was before
            have hold : ∀ v : Nat, v < n → T v = false → v ≠ s → st2.owner v ≠ -1 → st2.owner v ≠ (k : Int) := fun v hv hTv hvs hnv e => by
              cases hTt : Ti v with
              | true => rw [k1 v hTt] at e; exact hout v hv hTv e
              | false =>
                rcases him v hv hTt hvs hnv with ⟨u, hu2, hU, -, e2⟩ | e2
                · exact hout u hu2 (hTT u hU) (by rw [e2, e])
                · exact hout s hsn hTs (by rw [hj, ← e2, e])
            by_cases e : t = s
            · by_cases e2 : u = s
              · rw [e, e2]
              · rw [e, setF_self, setF_ne _ _ e2] at he
                exact absurd he.symm (hold u hu2 hU e2 (by omega))
            · rw [setF_ne _ _ e] at hne he
              by_cases e2 : u = s
              · rw [e2, setF_self] at he
                exact absurd he (hold t ht hT e hne)
              · rw [setF_ne _ _ e2] at he
                cases hTt : Ti t with
                | true =>
                  cases hTu : Ti u with
                  | true => rw [k1 t hTt] at hne he; rw [k1 u hTu] at he; exact hp.inj t u ht hu2 hT hU hne he
                  | false =>
                    exfalso
                    rw [k1 t hTt] at hne he
                    rcases him u hu2 hTu e2 (by rw [← he]; exact hne) with ⟨v, hv, hV, -, e3⟩ | e3
                    · have := hp.inj t v ht hv hT (hTT v hV) hne (by rw [he, e3])
                      rw [this, hV] at hTt; cases hTt
                    · exact e (hp.inj t s ht hsn hT hTs hne (by rw [he, e3, hj]))
                | false =>
                  cases hTu : Ti u with
                  | true =>
                    exfalso
                    rw [k1 u hTu] at he
                    rcases him t ht hTt e hne with ⟨v, hv, hV, -, e3⟩ | e3
                    · have := hp.inj v u hv hu2 (hTT v hV) hU (by rw [e3]; exact hne) (by rw [e3, he])
                      rw [← this, hV] at hTu; cases hTu
                    · exact e2 (hp.inj u s hu2 hsn hU hTs (by rw [← he]; exact hne) (by rw [← he, e3, hj]))
                  | false => exact hS.pre.inj t u ht hu2 (by rw [setF_ne _ _ e]; exact hTt) (by rw [setF_ne _ _ e2]; exact hTu) hne he
          · rintro ⟨t, ht, hT, e⟩
            simp only [] at e
            by_cases e2 : t = s
            · rw [e2, setF_self] at e
              exact .inr (by omega)
            · rw [setF_ne _ _ e2] at e
              cases hTt : Ti t with
              | true => rw [k1 t hTt] at e; exact .inl ⟨t, ht, hT, e⟩
              | false =>
                rcases him t ht hTt e2 (by omega) with ⟨v, hv, hV, -, e3⟩ | e3
                · exact .inl ⟨v, hv, hTT v hV, by rw [e3, e]⟩
                · exact .inl ⟨s, hsn, hTs, by rw [hj, ← e3, e]⟩
          · rintro (⟨t, ht, hT, e⟩ | rfl)
            · by_cases e2 : t = s
              · -- j is owned by another one now
                rw [e2, hj] at e
                obtain ⟨v, hv, hV, e3⟩ := (hS.im j).2 (.inr rfl)
                obtain ⟨e4, e5⟩ := hU1 v hV
                exact ⟨v, hv, hTT v e5, by simp only []; rw [setF_ne _ _ e4, e3, ← e]⟩
              · cases hTt : Ti t with
                | true => exact ⟨t, ht, hT, by simp only []; rw [setF_ne _ _ e2, k1 t hTt, e]⟩
                | false =>
                  obtain ⟨v, hv, hV, e3⟩ := (hS.im q).2 (.inl ⟨t, ht, by rw [setF_ne _ _ e2]; exact hTt, e⟩)
                  obtain ⟨e4, e5⟩ := hU1 v hV
                  exact ⟨v, hv, hTT v e5, by simp only []; rw [setF_ne _ _ e4, e3]⟩
            · exact ⟨s, hsn, hTs, setF_self _ _ _⟩
        · have hb : b = false := by simpa using hb
          subst hb
          rw [if_neg (by simp)]
          obtain ⟨ho, hF⟩ := hsp.2 rfl
          simp only [] at ho hF
          obtain ⟨o2, T2⟩ := st2
          simp only [] at ho hF ⊢
          subst ho
          have hTm : ∀ t, Ti t = true → T2 t = true := fun t ht => hF.mono t (by
            by_cases e : t = s
            · rw [e, setF_self]
            · rw [setF_ne _ _ e]; exact ht)
          have hs2 : T2 s = true := hF.mono s (setF_self _ _ _)
          refine augL_spec hL hk hsub o2 T hp hout r (pre ++ [(s : Int)]) (by rw [hr]; simp) T2 (fun t ht => hTm t (hm t ht)) (fun z hz => ?_) (fun t ht hT2 hT => ?_) (Nat.le_trans (unT_le hTm) hu)
          · rcases List.mem_append.1 hz with h | h
            · exact (hd z h).imp id (hTm _)
            · rw [List.mem_singleton.1 h, Int.toNat_natCast]; exact .inr hs2
          · by_cases e : t = s
            · subst e
              exact ⟨j, hjn, hj, hF.here⟩
            · cases hTt : Ti t with
              | true =>
                obtain ⟨q, hq, e1, e2⟩ := hc t ht hTt hT
                exact ⟨q, hq, e1, fun u hu2 hus2 => hTm u (e2 u hu2 hus2)⟩
              | false => exact hF.clos t ht hT2 (by rw [setF_ne _ _ e]; exact hTt)
theorem augP_spec {n : Nat} {L : List (List Int)} {used : Nat → Bool} (hL : LOk n L) : ∀ (f k : Nat) (st : ASt), k < n → unT n st.tried ≤ f → Pre n L used st.owner st.tried → (∀ s, s < n → st.tried s = false → st.owner s ≠ (k : Int)) → Spec n L used st.owner st.tried k (augP L used (f + 1) k st)
  | 0, k, ⟨o, T⟩, hk, hu, hp, hout => by
    rw [augP]
    have hall : ∀ s, s < n → T s = true := fun s hs => by
      cases e : T s with
      | true => rfl
      | false =>
        have := unT_put hs e
        simp only [] at hu
        omega
    exact augL_spec hL hk (f := 0) (fun j st hj hu2 hp2 ho2 => by
      rw [augP]
      refine ⟨fun h => absurd h (by simp), fun _ => ⟨rfl, fun _ h => h, fun u hadj hus => ?_, fun s hs h1 h2 => by rw [h1] at h2; cases h2⟩⟩
      have := hL j (u : Int) hj hadj
      have hun : u < n := by omega
      cases e : st.tried u with
      | true => rfl
      | false =>
        have := unT_put hun e
        omega) o T hp hout (row L k) [] rfl T (fun _ h => h) (fun z hz => by cases hz) (fun s hs h1 h2 => by rw [h1] at h2; cases h2) (by simp only [] at hu; omega)
  | f + 1, k, ⟨o, T⟩, hk, hu, hp, hout => by
    rw [augP]
    exact augL_spec hL hk (f := f) (fun j st hj hu2 hp2 ho2 => augP_spec hL f j st hj hu2 hp2 ho2) o T hp hout (row L k) [] rfl T (fun _ h => h) (fun z hz => by cases hz) (fun s hs h1 h2 => by rw [h1] at h2; cases h2) hu
end Go.Proofs.Ytcnjlkabdfcjdaa
