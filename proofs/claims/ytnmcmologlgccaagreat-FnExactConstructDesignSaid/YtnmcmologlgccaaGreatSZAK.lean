/- A region that draws its order, its last operation one that waits for all others, by way of others too. Over any program. No condition beyond those stated. -/
import Derived.Test.YtnmcmologlgccaaGreatSZAJ
set_option linter.unusedVariables false
set_option linter.unusedSimpArgs false
namespace Go.Proofs.YtnmcmologlgccaaGreat
open Go
section
variable {P : Program}
def waitsN (md : Region.Mode) (o : Oper) : List Nat := (o.after.toList.filter fun e => Region.binds md e).map fun e => e.on
def growN (md : Region.Mode) (l : List Oper) (s : List Nat) : List Nat := (s ++ s.flatMap fun j => ((l[j]?).map (waitsN md)).getD []).eraseDups
def reachN (md : Region.Mode) (l : List Oper) (oz : Oper) : Nat → List Nat
  | 0 => waitsN md oz
  | n + 1 => growN md l (reachN md l oz n)
theorem mem_waitsN {md : Region.Mode} {o : Oper} {i : Nat} : i ∈ waitsN md o ↔ ∃ e ∈ o.after, Region.binds md e = true ∧ e.on = i := by
  unfold waitsN
  simp only [List.mem_map, List.mem_filter, Array.mem_toList_iff]
  constructor
  · rintro ⟨e, ⟨h1, h2⟩, h3⟩; exact ⟨e, h1, h2, h3⟩
  · rintro ⟨e, h1, h2, h3⟩; exact ⟨e, ⟨h1, h2⟩, h3⟩
theorem reach_listed {md : Region.Mode} {l : List Oper} {oz : Oper} {listed : Array Bool} (hc : Closed md l listed) (key : ∀ e ∈ oz.after, Region.binds md e = true → listed.getD e.on true = true) : ∀ n i, i ∈ reachN md l oz n → listed.getD i true = true := by
  intro n
  induction n with
  | zero =>
    intro i hi
    obtain ⟨e, he, hb, rfl⟩ := mem_waitsN.1 hi
    exact key e he hb
  | succ n ih =>
    intro i hi
    unfold reachN growN at hi
    rw [List.mem_eraseDups, List.mem_append, List.mem_flatMap] at hi
    rcases hi with hi | ⟨j, hj, hi⟩
    · exact ih i hi
    · cases ho : l[j]? with
      | none => rw [ho] at hi; simp at hi
      | some o =>
        rw [ho] at hi
        obtain ⟨e, he, hb, rfl⟩ := mem_waitsN.1 (by simpa using hi)
        exact hc j o ho (ih j hj) e he hb
theorem atEnd_atEnd (F G : Act → World → Prop) (Q : Exit → Act → World → Prop) : atEnd F (atEnd G Q) = atEnd F Q := by
  funext e a w
  cases e <;> rfl
theorem wp_toEnd {F : Act → World → Prop} {Q : Exit → Act → World → Prop} {o : Oper} {a : Act} {w : World} {K : Act → World → Prop} (h : o.wp P a w K Q) : o.wp P a w K (atEnd F Q) := by
  unfold Oper.wp at *
  generalize (execOp a.eval o).run P w = r at *
  cases r with
  | ok n w' =>
    cases n with
    | value u => exact h
    | skip => exact h
    | defer d => exact h
    | enter f args =>
      refine Calls.mono h fun e w'' he => ?_
      cases e with
      | returned u => exact he
      | panicked c => exact he
      | outgrown => exact he
    | _ => exact h
  | halt x w' =>
    cases x with
    | panic u => exact h
    | _ => exact h
end
end Go.Proofs.YtnmcmologlgccaaGreat
namespace Go.Proofs.YtnmcmologlgccaaGreat
open Go
section
variable {P : Program}
def lastX (X : List Nat) (md : Region.Mode) (l : List Oper) (oz : Oper) : Bool :=
  ((List.range l.length).all fun i => ((l[i]?).map fun o => o.guard.isNone && o.after.all fun e => !Region.binds md e || decide (e.on < i)).getD true) && oz.guard.isNone && ((List.range l.length).all fun i => X.contains i || (reachN md l oz 12).contains i) && oz.after.all fun e => !Region.binds md e || decide (e.on < l.length)
theorem lastX_op {X : List Nat} {md : Region.Mode} {l : List Oper} {oz : Oper} (h : lastX X md l oz = true) {i : Nat} {o : Oper} (hi : l[i]? = some o) : o.guard = none ∧ ∀ e ∈ o.after, Region.binds md e = true → e.on < i := by
  unfold lastX at h
  simp only [Bool.and_eq_true] at h
  have hl := (List.getElem?_eq_some_iff.1 hi).1
  have h1 := List.all_eq_true.1 h.1.1.1 i (List.mem_range.2 hl)
  rw [hi] at h1
  simp only [Option.map_some, Option.getD_some, Bool.and_eq_true] at h1
  refine ⟨by simpa using h1.1, fun e he hb => ?_⟩
  have := Array.all_eq_true_iff_forall_mem.1 h1.2 e he
  rw [hb] at this
  simpa using this
theorem lastX_z {X : List Nat} {md : Region.Mode} {l : List Oper} {oz : Oper} (h : lastX X md l oz = true) : oz.guard = none ∧ (∀ i, i < l.length → i ∈ X ∨ i ∈ reachN md l oz 12) ∧ ∀ e ∈ oz.after, Region.binds md e = true → e.on < l.length := by
  unfold lastX at h
  simp only [Bool.and_eq_true] at h
  refine ⟨by simpa using h.1.1.2, fun i hi => ?_, fun e he hb => ?_⟩
  · have h1 := List.all_eq_true.1 h.1.2 i (List.mem_range.2 hi)
    simpa using h1
  · have := Array.all_eq_true_iff_forall_mem.1 h.2 e he
    rw [hb] at this
    simpa using this
theorem wpAny_lastX {X : List Nat} {md : Region.Mode} {l : List Oper} {oz : Oper} {F : Act → World → Prop} {Q : Exit → Act → World → Prop} (hz : lastX X md l oz = true)
    (hF : ∀ a w, F a w → oz.wp P a w (Q .normal) Q ∨ (oz.asks P a w ∧ LetsOut Q)) : ∀ (fuel : Nat) (listed : Array Bool) (a : Act) (w : World), listed.size = l.length → Closed md l listed → (∀ i ∈ X, listed.getD i true = true) →
      wpAny P md l.toArray (atEnd F Q) fuel listed a w → wpAny P md (l ++ [oz]).toArray Q (fuel + 1) (listed.push false) a w := by
  obtain ⟨zg, zw, zl⟩ := lastX_z hz
  have small : ∀ {listed : Array Bool} {i : Nat}, listed.size = l.length → i < l.length → (i ∈ Region.ready md (l ++ [oz]).toArray (listed.push false) ↔ i ∈ Region.ready md l.toArray listed) := fun {listed i} hs hi => by
    rw [mem_ready, mem_ready, getD_push _ (by omega), op_left hi]
    refine and_congr_right fun _ => exists_congr fun o => and_congr_right fun ho => ?_
    have hon := (lastX_op hz (by simpa using ho)).2
    refine forall_congr' fun e => forall_congr' fun he => forall_congr' fun hb => ?_
    rw [getD_push _ (by have := hon e he hb; omega)]
  have dead : ∀ {listed : Array Bool}, listed.size = l.length → Region.ready md l.toArray listed = [] → ∀ i, i < l.length → listed.getD i true = true := fun {listed} hs hr i => by
    induction i using Nat.strongRecOn with
    | ind i ih =>
      intro hi
      cases hq : listed.getD i true with
      | true => rfl
      | false =>
        exfalso
        have : i ∈ Region.ready md l.toArray listed := by
          refine mem_ready.2 ⟨hq, l[i], by simp, fun e he hb => ?_⟩
          have hon := (lastX_op hz (i := i) (o := l[i]) (by simp)).2 e he hb
          have := ih e.on hon (by omega)
          rw [Array.getD_eq_getD_getElem?, Array.getElem?_eq_getElem (by omega)] at this ⊢
          simpa using this
        rw [hr] at this
        cases this
  have zready : ∀ {listed : Array Bool}, listed.size = l.length → Closed md l listed → (∀ i ∈ X, listed.getD i true = true) → (l.length ∈ Region.ready md (l ++ [oz]).toArray (listed.push false) ↔ ∀ i, i < l.length → listed.getD i true = true) := fun {listed} hs hc hX => by
    rw [mem_ready]
    constructor
    · rintro ⟨_, o, ho, h⟩ i hi
      rw [op_last] at ho
      injection ho with ho
      subst ho
      have key : ∀ e ∈ oz.after, Region.binds md e = true → listed.getD e.on true = true := fun e he hb => by
        have := h e he hb
        have hl := zl e he hb
        rw [getD_push _ (by omega)] at this
        rw [Array.getD_eq_getD_getElem?, Array.getElem?_eq_getElem (by omega)] at this ⊢
        simpa using this
      rcases zw i hi with h1 | h1
      · exact hX i h1
      · exact reach_listed hc key 12 i h1
    · intro h
      refine ⟨by simp [Array.getD_eq_getD_getElem?, ← hs], oz, op_last, fun e he hb => ?_⟩
      have hl := zl e he hb
      have := h e.on hl
      rw [getD_push _ (by omega)]
      rw [Array.getD_eq_getD_getElem?, Array.getElem?_eq_getElem (by omega)] at this ⊢
      simpa using this
  have beyond : ∀ {listed : Array Bool} {i : Nat}, i ∈ Region.ready md (l ++ [oz]).toArray (listed.push false) → i ≤ l.length := fun {listed i} h => by
    obtain ⟨_, o, ho, _⟩ := mem_ready.1 h
    have := (Array.getElem?_eq_some_iff.1 ho).1
    simp at this
    omega
  have setp : ∀ {listed : Array Bool} {i : Nat}, i < listed.size → (listed.push false).setIfInBounds i true = (listed.setIfInBounds i true).push false := fun {listed i} h => by
    apply Array.ext_getElem?
    intro k
    rw [Array.getElem?_push, Array.getElem?_setIfInBounds, Array.getElem?_setIfInBounds, Array.getElem?_push]
    simp only [Array.size_setIfInBounds, Array.size_push]
    by_cases e : i = k
    · subst e
      simp [Nat.ne_of_lt h, h, show i < listed.size + 1 from by omega]
    · rw [if_neg e, if_neg e]
  -- all others have come up
  have finish : ∀ (fuel : Nat) (listed : Array Bool) (a : Act) (w : World), listed.size = l.length → Closed md l listed → (∀ i ∈ X, listed.getD i true = true) → Region.ready md l.toArray listed = [] → F a w → wpAny P md (l ++ [oz]).toArray Q (fuel + 1) (listed.push false) a w := fun fuel listed a w hs hc hX hr hf => by
    have hall := dead hs hr
    have hzr := (zready hs hc hX).2 hall
    refine ⟨(fun h => by rw [h] at hzr; cases hzr), fun i hi => ?_⟩
    have hib := beyond hi
    rcases Nat.lt_or_ge i l.length with h1 | h1
    · have := (small hs h1).1 hi
      rw [hr] at this; cases this
    · have e : i = l.length := by omega
      subst e
      unfold wpOp
      rw [op_last]
      simp only
      rw [if_pos (by unfold Region.wanted; rw [zg])]
      refine (hF a w hf).imp (fun hq0 => Oper.wp_mono (fun a' w' hq => ?_) hq0) id
      have hnone : Region.ready md (l ++ [oz]).toArray ((listed.push false).setIfInBounds l.length true) = [] := by
        rw [List.eq_nil_iff_forall_not_mem]
        intro k hk
        obtain ⟨h2, o, ho, _⟩ := mem_ready.1 hk
        have hkl := (Array.getElem?_eq_some_iff.1 ho).1
        simp at hkl
        rcases Nat.lt_or_ge k l.length with h3 | h3
        · have := hall k h3
          rw [Array.getD_eq_getD_getElem?] at this h2
          rw [Array.getElem?_setIfInBounds_ne (by omega), Array.getElem?_push, if_neg (by omega)] at h2
          rw [this] at h2; cases h2
        · have e : k = l.length := by omega
          subst e
          rw [Array.getD_eq_getD_getElem?, Array.getElem?_setIfInBounds_self] at h2
          simp [hs] at h2
      cases fuel with
      | zero => exact ⟨hnone, hq⟩
      | succ f => exact ⟨fun _ => hq, by rw [hnone]; simp⟩
  intro fuel
  induction fuel with
  | zero => intro listed a w hs hc hX h; exact finish 0 listed a w hs hc hX h.1 h.2
  | succ f ih =>
    intro listed a w hs hc hX h
    by_cases hr : Region.ready md l.toArray listed = []
    · exact finish (f + 1) listed a w hs hc hX hr (h.1 hr)
    · obtain ⟨i0, hi0⟩ := List.exists_mem_of_ne_nil _ hr
      have hi0l : i0 < l.length := by
        obtain ⟨_, o, ho, _⟩ := mem_ready.1 hi0
        have := (Array.getElem?_eq_some_iff.1 ho).1
        simpa using this
      have hun := (mem_ready.1 hi0).1
      have hr' := (small hs hi0l).2 hi0
      refine ⟨(fun h0 => by rw [h0] at hr'; cases hr'), fun i hi => ?_⟩
      have hib := beyond hi
      rcases Nat.lt_or_ge i l.length with h1 | h1
      · have h2 := h.2 i ((small hs h1).1 hi)
        unfold wpOp at h2 ⊢
        rw [op_left h1]
        have hsome : l.toArray[i]? = some l[i] := by simp
        rw [hsome] at h2 ⊢
        simp only at h2 ⊢
        have hg := (lastX_op hz (i := i) (o := l[i]) (by simp)).1
        rw [if_pos (by unfold Region.wanted; rw [hg])] at h2 ⊢
        refine h2.imp (fun h3 => ?_) (fun h3 => ⟨h3.1, h3.2⟩)
        refine Oper.wp_mono (fun a' w' h4 => ?_) (wp_atEnd h3)
        rw [setp (by omega)]
        refine ih _ a' w' (by simpa using hs) (closed_set (by omega) hc ((small hs h1).1 hi)) (fun q hq => ?_) h4
        have hq2 := hX q hq
        rw [Array.getD_eq_getD_getElem?] at hq2 ⊢
        rw [Array.getElem?_setIfInBounds]
        split
        · first | rfl | (split <;> simp)
        · exact hq2
      · have e : i = l.length := by omega
        subst e
        have := (zready hs hc hX).1 hi i0 hi0l
        rw [Array.getD_eq_getD_getElem?, Array.getElem?_eq_getElem (by omega)] at this hun
        simp at this hun
        rw [this] at hun; cases hun
def sufX (X : List Nat) (md : Region.Mode) : List Oper → List Oper → Bool
  | _, [] => true
  | l, o :: t => lastX X md l o && sufX X md (l ++ [o]) t
theorem wpAny_sufX {X : List Nat} {md : Region.Mode} {Q : Exit → Act → World → Prop} : ∀ (t l : List Oper) (fuel : Nat) (listed : Array Bool) (a : Act) (w : World), sufX X md l t = true → listed.size = l.length → Closed md l listed → (∀ i ∈ X, listed.getD i true = true) → (∀ i ∈ X, i < l.length) →
      wpAny P md l.toArray (atEnd (fun a w => wpList P #[] Q t a w) Q) fuel listed a w → ∃ listed', listed' = listed ++ Array.replicate t.length false ∧ wpAny P md (l ++ t).toArray Q (fuel + t.length) listed' a w := by
  intro t
  induction t with
  | nil =>
    intro l fuel listed a w _ _ _ _ _ h
    refine ⟨_, rfl, ?_⟩
    have e : atEnd (fun a w => wpList P #[] Q [] a w) Q = Q := by funext e a w; cases e <;> rfl
    rw [e] at h
    simpa using h
  | cons o t ih =>
    intro l fuel listed a w hz hs hc hX hXl h
    unfold sufX at hz
    rw [Bool.and_eq_true] at hz
    have hF : ∀ a w, wpList P #[] Q (o :: t) a w → o.wp P a w (atEnd (fun a w => wpList P #[] Q t a w) Q .normal) (atEnd (fun a w => wpList P #[] Q t a w) Q) ∨ (o.asks P a w ∧ LetsOut (atEnd (fun a w => wpList P #[] Q t a w) Q)) := fun a w h => by
      have hg := (lastX_z hz.1).1
      unfold wpList at h
      rw [if_pos (by unfold Region.wanted; rw [hg])] at h
      rcases h with h | ⟨h1, h2⟩
      · exact .inl (wp_toEnd h)
      · exact .inr ⟨h1, h2⟩
    have h1 := wpAny_lastX (Q := atEnd (fun a w => wpList P #[] Q t a w) Q) hz.1 hF fuel listed a w hs hc hX (by rw [atEnd_atEnd]; exact h)
    have hc1 : Closed md (l ++ [o]) (listed.push false) := fun i o' ho hi e he hb => by
      rcases Nat.lt_or_ge i l.length with hl | hl
      · rw [List.getElem?_append_left hl] at ho
        rw [getD_push _ (by omega)] at hi
        have := hc i o' ho hi e he hb
        have hlt := (lastX_op hz.1 ho).2 e he hb
        rw [getD_push _ (by omega)]
        exact this
      · have hlen := (List.getElem?_eq_some_iff.1 ho).1
        rw [List.length_append, List.length_singleton] at hlen
        have e1 : i = listed.size := by omega
        subst e1
        simp [Array.getD_eq_getD_getElem?] at hi
    have hX1 : ∀ i ∈ X, (listed.push false).getD i true = true := fun i hi => by
      have h2 := hX i hi
      have hlt : i < listed.size := by have := hXl i hi; omega
      rw [getD_push _ hlt]
      exact h2
    obtain ⟨L, hL, h2⟩ := ih (l ++ [o]) (fuel + 1) (listed.push false) a w hz.2 (by simp [hs]) hc1 hX1 (fun i hi => by have := hXl i hi; simp; omega) h1
    refine ⟨L, ?_, ?_⟩
    · rw [hL]
      apply Array.ext'
      simp [List.replicate_succ]
    · rw [List.append_assoc, List.singleton_append] at h2
      rw [List.length_cons, show fuel + (t.length + 1) = fuel + 1 + t.length from by omega]
      exact h2
theorem region_sufX {id : Nat} {l m t : List Oper} {n : Nat} {Q : Exit → Act → World → Prop} {a : Act} {w : World} {S : World → Prop} {i : Nat} {oi : Oper} {v : Value} (hm : P.follows .mixedOrders = true) (h1 : l.take n = m) (h2 : l.drop n = t) (hz : sufX [i] .any m t = true) (hi : l.toArray[i]? = some oi) (hil : i < m.length)
    (hs : Region.noSelect l.toArray = true) (hf : Region.free .any l.toArray (Array.replicate l.toArray.size false) i = true) (hr : (Region.ready .any l.toArray (Array.replicate l.toArray.size false)).contains i = true) (hrm : (Region.ready .any m.toArray (Array.replicate m.length false)).contains i = true)
    (hQ : ∀ c a w, Q (.panic c) (a.put oi.dst v) w → Q (.panic c) a w) (hy : Yields P l.toArray oi v a) (hS : S w.drew)
    (h : S w.drew → wpAnyH P .any m.toArray (atEnd (fun a w => wpList P #[] Q t a w) Q) S (m.length - 1) ((Array.replicate m.length false).setIfInBounds i true) (a.put oi.dst v) w.drew) : (Code.region id l.toArray true).wp P Q a w := by
  have e : l = m ++ t := by rw [← h1, ← h2, List.take_append_drop]
  refine wp_region_any hm ?_
  have hsz : l.toArray.size = (l.toArray.size - 1) + 1 := by
    rw [e]; simp; omega
  rw [hsz]
  refine wpAny_take hi hs (by rw [← hsz]; exact hf) (by rw [← hsz]; exact hr) hQ hy ?_
  have hri : i ∈ Region.ready .any m.toArray (Array.replicate m.length false) := by simpa using hrm
  obtain ⟨L, hL, h3⟩ := wpAny_sufX (X := [i]) t m (m.length - 1) ((Array.replicate m.length false).setIfInBounds i true) _ _ hz (by simp) (closed_set (by simpa using hil) (closed_none .any m) hri) (fun q hq => by
    have : q = i := by simpa using hq
    subst this
    simp [Array.getD_eq_getD_getElem?, hil]) (fun q hq => by
    have : q = i := by simpa using hq
    subst this
    exact hil) (wpAny_of_held _ _ _ _ (h hS))
  have e1 : L = (Array.replicate l.toArray.size false).setIfInBounds i true := by
    rw [hL, e]
    apply Array.ext'
    rw [Array.toList_append, Array.toList_setIfInBounds, Array.toList_setIfInBounds, Array.toList_replicate, Array.toList_replicate, Array.toList_replicate]
    rw [List.size_toArray, List.length_append, ← List.replicate_append_replicate, List.set_append, if_pos (by simpa using hil)]
  rw [e1] at h3
  rw [← hsz]
  have e2 : l.toArray.size - 1 = m.length - 1 + t.length := by
    rw [e]; simp; omega
  rw [e2]
  have e3 : (m ++ t).toArray = l.toArray := by rw [e]
  rw [e3] at h3
  exact h3
end
end Go.Proofs.YtnmcmologlgccaaGreat
