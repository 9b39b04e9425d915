/- A region that draws its order, its last operation one that waits for all others, some of them by way of one other. Over any program. No condition beyond those stated. -/
import Derived.Test.YtncknfhfkmmhbaaGreatZAY
set_option linter.unusedVariables false
set_option linter.unusedSimpArgs false
namespace Go.Proofs.YtncknfhfkmmhbaaGreat
open Go

section
variable {P : Program}
/-- every operation waits for earlier ones alone and has no guard; the last one waits for all others, or for one that waits for it -/
def lastC (md : Region.Mode) (l : List Oper) (oz : Oper) : Bool :=
  ((List.range l.length).all fun i => ((l[i]?).map fun o => o.guard.isNone && o.after.all fun e => decide (e.on < i)).getD true) && oz.guard.isNone && ((List.range l.length).all fun i => (oz.after.any fun e => Region.binds md e && e.on == i) || ((List.range l.length).any fun j => (oz.after.any fun e => Region.binds md e && e.on == j) && ((l[j]?).map fun o => o.after.any fun e => Region.binds md e && e.on == i).getD false)) && oz.after.all fun e => decide (e.on < l.length)
theorem lastC_op {md : Region.Mode} {l : List Oper} {oz : Oper} (h : lastC md l oz = true) {i : Nat} {o : Oper} (hi : l[i]? = some o) : o.guard = none ∧ ∀ e ∈ o.after, e.on < i := by
  unfold lastC at h
  simp only [Bool.and_eq_true] at h
  have hl := (List.getElem?_eq_some_iff.1 hi).1
  have h1 := List.all_eq_true.1 h.1.1.1 i (List.mem_range.2 hl)
  rw [hi] at h1
  simp only [Option.map_some, Option.getD_some, Bool.and_eq_true] at h1
  refine ⟨by simpa using h1.1, fun e he => ?_⟩
  have := Array.all_eq_true_iff_forall_mem.1 h1.2 e he
  simpa using this
theorem lastC_z {md : Region.Mode} {l : List Oper} {oz : Oper} (h : lastC md l oz = true) : oz.guard = none ∧ (∀ i, i < l.length → (∃ e ∈ oz.after, Region.binds md e = true ∧ e.on = i) ∨ ∃ j o, l[j]? = some o ∧ (∃ e ∈ oz.after, Region.binds md e = true ∧ e.on = j) ∧ ∃ e ∈ o.after, Region.binds md e = true ∧ e.on = i) ∧ ∀ e ∈ oz.after, e.on < l.length := by
  unfold lastC at h
  simp only [Bool.and_eq_true] at h
  refine ⟨by simpa using h.1.1.2, fun i hi => ?_, fun e he => ?_⟩
  · have h1 := List.all_eq_true.1 h.1.2 i (List.mem_range.2 hi)
    rcases Bool.or_eq_true _ _ ▸ h1 with h1 | h1
    · obtain ⟨j, hj, hq⟩ := Array.any_eq_true.1 h1
      simp at hq
      exact .inl ⟨oz.after[j], Array.getElem_mem hj, hq.1, hq.2⟩
    · obtain ⟨j, hj, hq⟩ := List.any_eq_true.1 h1
      rw [Bool.and_eq_true] at hq
      obtain ⟨hq1, hq2⟩ := hq
      obtain ⟨k, hk, hq1⟩ := Array.any_eq_true.1 hq1
      simp at hq1
      cases ho : l[j]? with
      | none => rw [ho] at hq2; cases hq2
      | some o =>
        rw [ho] at hq2
        obtain ⟨k', hk', hq2⟩ := Array.any_eq_true.1 hq2
        simp at hq2
        exact .inr ⟨j, o, ho, ⟨oz.after[k], Array.getElem_mem hk, hq1.1, hq1.2⟩, ⟨o.after[k'], Array.getElem_mem hk', hq2.1, hq2.2⟩⟩
  · have := Array.all_eq_true_iff_forall_mem.1 h.2 e he
    simpa using this
/-- what has come up has come up behind all that it waits for -/
def Closed (md : Region.Mode) (l : List Oper) (listed : Array Bool) : Prop := ∀ i o, l[i]? = some o → listed.getD i true = true → ∀ e ∈ o.after, Region.binds md e = true → listed.getD e.on true = true
theorem closed_none (md : Region.Mode) (l : List Oper) : Closed md l (Array.replicate l.length false) := fun i o ho h => by
  have hi := (List.getElem?_eq_some_iff.1 ho).1
  simp [Array.getD_eq_getD_getElem?, hi] at h
theorem closed_set {md : Region.Mode} {l : List Oper} {listed : Array Bool} {i : Nat} (hi : i < listed.size) (h : Closed md l listed) (hr : i ∈ Region.ready md l.toArray listed) : Closed md l (listed.setIfInBounds i true) := fun k o ho hk e he hb => by
  have mono : ∀ q, listed.getD q true = true → (listed.setIfInBounds i true).getD q true = true := fun q hq => by
    rw [Array.getD_eq_getD_getElem?] at hq ⊢
    rw [Array.getElem?_setIfInBounds]
    split
    · first | rfl | (split <;> simp)
    · exact hq
  obtain ⟨_, o', ho', hall⟩ := mem_ready.1 hr
  by_cases e1 : k = i
  · subst e1
    have : o' = o := by
      have h2 : l[k]? = some o' := by simpa using ho'
      rw [ho] at h2
      injection h2 with h2
      exact h2.symm
    subst this
    have h3 := hall e he hb
    refine mono _ ?_
    rw [Array.getD_eq_getD_getElem?] at h3 ⊢
    cases hq : listed[e.on]? with
    | none => rfl
    | some q => rw [hq] at h3; simpa using h3
  · refine mono _ (h k o ho ?_ e he hb)
    rw [Array.getD_eq_getD_getElem?, Array.getElem?_setIfInBounds, if_neg (fun e => e1 e.symm)] at hk
    rw [Array.getD_eq_getD_getElem?]
    exact hk
theorem wpAny_lastC {md : Region.Mode} {l : List Oper} {oz : Oper} {F : Act → World → Prop} {Q : Exit → Act → World → Prop} (hz : lastC md l oz = true)
    (hF : ∀ a w, F a w → oz.wp P a w (Q .normal) Q ∨ (oz.asks P a w ∧ LetsOut Q)) : ∀ (fuel : Nat) (listed : Array Bool) (a : Act) (w : World), listed.size = l.length → Closed md l listed →
      wpAny P md l.toArray (atEnd F Q) fuel listed a w → wpAny P md (l ++ [oz]).toArray Q (fuel + 1) (listed.push false) a w := by
  obtain ⟨zg, zw, zl⟩ := lastC_z hz
  have small : ∀ {listed : Array Bool} {i : Nat}, listed.size = l.length → i < l.length → (i ∈ Region.ready md (l ++ [oz]).toArray (listed.push false) ↔ i ∈ Region.ready md l.toArray listed) := fun {listed i} hs hi => by
    rw [mem_ready, mem_ready, getD_push _ (by omega), op_left hi]
    refine and_congr_right fun _ => exists_congr fun o => and_congr_right fun ho => ?_
    have hon := (lastC_op hz (by simpa using ho)).2
    refine forall_congr' fun e => forall_congr' fun he => ?_
    rw [getD_push _ (by have := hon e he; omega)]
  have dead : ∀ {listed : Array Bool}, listed.size = l.length → Region.ready md l.toArray listed = [] → ∀ i, i < l.length → listed.getD i true = true := fun {listed} hs hr i => by
    induction i using Nat.strongRecOn with
    | ind i ih =>
      intro hi
      cases hq : listed.getD i true with
      | true => rfl
      | false =>
        exfalso
        have : i ∈ Region.ready md l.toArray listed := by
          refine mem_ready.2 ⟨hq, l[i], by simp, fun e he _ => ?_⟩
          have hon := (lastC_op hz (i := i) (o := l[i]) (by simp)).2 e he
          have := ih e.on hon (by omega)
          rw [Array.getD_eq_getD_getElem?, Array.getElem?_eq_getElem (by omega)] at this ⊢
          simpa using this
        rw [hr] at this
        cases this
  have zready : ∀ {listed : Array Bool}, listed.size = l.length → Closed md l listed → (l.length ∈ Region.ready md (l ++ [oz]).toArray (listed.push false) ↔ ∀ i, i < l.length → listed.getD i true = true) := fun {listed} hs hc => by
    rw [mem_ready]
    constructor
    · rintro ⟨_, o, ho, h⟩ i hi
      rw [op_last] at ho
      injection ho with ho
      subst ho
      have key : ∀ e ∈ oz.after, Region.binds md e = true → listed.getD e.on true = true := fun e he hb => by
        have := h e he hb
        have hl := zl e he
        rw [getD_push _ (by omega)] at this
        rw [Array.getD_eq_getD_getElem?, Array.getElem?_eq_getElem (by omega)] at this ⊢
        simpa using this
      rcases zw i hi with ⟨e, he, hb, rfl⟩ | ⟨j, o, ho, ⟨e, he, hb, rfl⟩, ⟨e', he', hb', rfl⟩⟩
      · exact key e he hb
      · exact hc _ o ho (key e he hb) e' he' hb'
    · intro h
      refine ⟨by simp [Array.getD_eq_getD_getElem?, ← hs], oz, op_last, fun e he hb => ?_⟩
      have hl := zl e he
      have := h e.on hl
      rw [getD_push _ (by omega)]
      rw [Array.getD_eq_getD_getElem?, Array.getElem?_eq_getElem (by omega)] at this ⊢
      simpa using this
  have beyond : ∀ {listed : Array Bool} {i : Nat}, i ∈ Region.ready md (l ++ [oz]).toArray (listed.push false) → i ≤ l.length := fun {listed i} h => by
    obtain ⟨_, o, ho, _⟩ := mem_ready.1 h
    have := (Array.getElem?_eq_some_iff.1 ho).1
    simp at this
    omega
  have setp : ∀ {listed : Array Bool} {i : Nat}, i < listed.size → (listed.push false).setIfInBounds i true = (listed.setIfInBounds i true).push false := fun {listed i} h => by
    apply Array.ext_getElem?
    intro k
    rw [Array.getElem?_push, Array.getElem?_setIfInBounds, Array.getElem?_setIfInBounds, Array.getElem?_push]
    simp only [Array.size_setIfInBounds, Array.size_push]
    by_cases e : i = k
    · subst e
      simp [Nat.ne_of_lt h, h, show i < listed.size + 1 from by omega]
    · rw [if_neg e, if_neg e]
  -- all others have come up
  have finish : ∀ (fuel : Nat) (listed : Array Bool) (a : Act) (w : World), listed.size = l.length → Closed md l listed → Region.ready md l.toArray listed = [] → F a w → wpAny P md (l ++ [oz]).toArray Q (fuel + 1) (listed.push false) a w := fun fuel listed a w hs hc hr hf => by
    have hall := dead hs hr
    have hzr := (zready hs hc).2 hall
    refine ⟨(fun h => by rw [h] at hzr; cases hzr), fun i hi => ?_⟩
    have hib := beyond hi
    rcases Nat.lt_or_ge i l.length with h1 | h1
    · have := (small hs h1).1 hi
      rw [hr] at this; cases this
    · have e : i = l.length := by omega
      subst e
      unfold wpOp
      rw [op_last]
      simp only
      rw [if_pos (by unfold Region.wanted; rw [zg])]
      refine (hF a w hf).imp (fun hq0 => Oper.wp_mono (fun a' w' hq => ?_) hq0) id
      have hnone : Region.ready md (l ++ [oz]).toArray ((listed.push false).setIfInBounds l.length true) = [] := by
        rw [List.eq_nil_iff_forall_not_mem]
        intro k hk
        obtain ⟨h2, o, ho, _⟩ := mem_ready.1 hk
        have hkl := (Array.getElem?_eq_some_iff.1 ho).1
        simp at hkl
        rcases Nat.lt_or_ge k l.length with h3 | h3
        · have := hall k h3
          rw [Array.getD_eq_getD_getElem?] at this h2
          rw [Array.getElem?_setIfInBounds_ne (by omega), Array.getElem?_push, if_neg (by omega)] at h2
          rw [this] at h2; cases h2
        · have e : k = l.length := by omega
          subst e
          rw [Array.getD_eq_getD_getElem?, Array.getElem?_setIfInBounds_self] at h2
          simp [hs] at h2
      cases fuel with
      | zero => exact ⟨hnone, hq⟩
      | succ f => exact ⟨fun _ => hq, by rw [hnone]; simp⟩
  intro fuel
  induction fuel with
  | zero => intro listed a w hs hc h; exact finish 0 listed a w hs hc h.1 h.2
  | succ f ih =>
    intro listed a w hs hc h
    by_cases hr : Region.ready md l.toArray listed = []
    · exact finish (f + 1) listed a w hs hc hr (h.1 hr)
    · obtain ⟨i0, hi0⟩ := List.exists_mem_of_ne_nil _ hr
      have hi0l : i0 < l.length := by
        obtain ⟨_, o, ho, _⟩ := mem_ready.1 hi0
        have := (Array.getElem?_eq_some_iff.1 ho).1
        simpa using this
      have hun := (mem_ready.1 hi0).1
      have hr' := (small hs hi0l).2 hi0
      refine ⟨(fun h0 => by rw [h0] at hr'; cases hr'), fun i hi => ?_⟩
      have hib := beyond hi
      rcases Nat.lt_or_ge i l.length with h1 | h1
      · have h2 := h.2 i ((small hs h1).1 hi)
        unfold wpOp at h2 ⊢
        rw [op_left h1]
        have hsome : l.toArray[i]? = some l[i] := by simp
        rw [hsome] at h2 ⊢
        simp only at h2 ⊢
        have hg := (lastC_op hz (i := i) (o := l[i]) (by simp)).1
        rw [if_pos (by unfold Region.wanted; rw [hg])] at h2 ⊢
        refine h2.imp (fun h3 => ?_) (fun h3 => ⟨h3.1, h3.2⟩)
        refine Oper.wp_mono (fun a' w' h4 => ?_) (wp_atEnd h3)
        rw [setp (by omega)]
        refine ih _ a' w' (by simpa using hs) ?_ h4
        exact closed_set (by omega) hc ((small hs h1).1 hi)
      · have e : i = l.length := by omega
        subst e
        have := (zready hs hc).1 hi i0 hi0l
        rw [Array.getD_eq_getD_getElem?, Array.getElem?_eq_getElem (by omega)] at this hun
        simp at this hun
        rw [this] at hun; cases hun
/-- the last operation of a drawn region by itself; a condition on the world is held till then -/
theorem region_lastC {id : Nat} {l m : List Oper} {oz : Oper} {Q : Exit → Act → World → Prop} {a : Act} {w : World} {S : World → Prop} (hm : P.follows .mixedOrders = true) (hl : l.getLast? = some oz) (hd : l.dropLast = m) (hz : lastC .any m oz = true) (hS : S w.drew)
    (h : S w.drew → wpAnyH P .any m.toArray (atEnd (fun a w => wpList P #[oz] Q [oz] a w) Q) S m.length (Array.replicate m.length false) a w.drew) : (Code.region id l.toArray true).wp P Q a w := by
  subst hd
  have e : l = l.dropLast ++ [oz] := by
    obtain ⟨r, rfl⟩ := List.getLast?_eq_some_iff.1 hl
    simp
  generalize l.dropLast = m at *
  subst e
  refine wp_region_any hm ?_
  have hF : ∀ a w, wpList P #[oz] Q [oz] a w → oz.wp P a w (Q .normal) Q ∨ (oz.asks P a w ∧ LetsOut Q) := fun a w h => by
    have hg := (lastC_z hz).1
    unfold wpList at h
    rw [if_pos (by unfold Region.wanted; rw [hg])] at h
    exact h
  have := wpAny_lastC hz hF m.length (Array.replicate m.length false) a _ (by simp) (closed_none .any m) (wpAny_of_held _ _ _ _ (h hS))
  have e1 : (Array.replicate m.length false).push false = Array.replicate (m ++ [oz]).toArray.size false := by simp [Array.replicate_succ]
  rw [e1] at this
  simpa using this
end
end Go.Proofs.YtncknfhfkmmhbaaGreat
