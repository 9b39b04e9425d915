/- A region that draws its order, its last operation one that waits for all others, by way of others too. Over any program. No condition beyond those stated. -/
import Derived.Test.YtcnjlkabdfcjdaaZAO
import Derived.Test.YtcnjlkabdfcjdaaZAK
import Derived.Test.YtcnjlkabdfcjdaaZAV
import Derived.Test.YtcnjlkabdfcjdaaZAI
import Derived.Deep.DeepCutAuto
set_option linter.unusedVariables false
set_option linter.unusedSimpArgs false
namespace Go.Proofs.Ytcnjlkabdfcjdaa
open Go

section
variable {P : Program}
/-- what an operation waits for -/
def waitsN (md : Region.Mode) (o : Oper) : List Nat := (o.after.toList.filter fun e => Region.binds md e).map fun e => e.on
def growN (md : Region.Mode) (l : List Oper) (s : List Nat) : List Nat := (s ++ s.flatMap fun j => ((l[j]?).map (waitsN md)).getD []).eraseDups
def reachN (md : Region.Mode) (l : List Oper) (oz : Oper) : Nat → List Nat
  | 0 => waitsN md oz
  | n + 1 => growN md l (reachN md l oz n)
/-- every operation waits for earlier ones alone and has no guard; the last one waits for all others, at last -/
def lastD (md : Region.Mode) (l : List Oper) (oz : Oper) : Bool :=
  ((List.range l.length).all fun i => ((l[i]?).map fun o => o.guard.isNone && o.after.all fun e => !Region.binds md e || decide (e.on < i)).getD true) && oz.guard.isNone && ((List.range l.length).all fun i => (reachN md l oz 12).contains i) && oz.after.all fun e => !Region.binds md e || decide (e.on < l.length)
theorem lastD_op {md : Region.Mode} {l : List Oper} {oz : Oper} (h : lastD md l oz = true) {i : Nat} {o : Oper} (hi : l[i]? = some o) : o.guard = none ∧ ∀ e ∈ o.after, Region.binds md e = true → e.on < i := by
  unfold lastD at h
  simp only [Bool.and_eq_true] at h
  have hl := (List.getElem?_eq_some_iff.1 hi).1
  have h1 := List.all_eq_true.1 h.1.1.1 i (List.mem_range.2 hl)
  rw [hi] at h1
  simp only [Option.map_some, Option.getD_some, Bool.and_eq_true] at h1
  refine ⟨by simpa using h1.1, fun e he hb => ?_⟩
  have := Array.all_eq_true_iff_forall_mem.1 h1.2 e he
  rw [hb] at this
  simpa using this
theorem mem_waitsN {md : Region.Mode} {o : Oper} {i : Nat} : i ∈ waitsN md o ↔ ∃ e ∈ o.after, Region.binds md e = true ∧ e.on = i := by
  unfold waitsN
  simp only [List.mem_map, List.mem_filter, Array.mem_toList_iff]
  constructor
  · rintro ⟨e, ⟨h1, h2⟩, h3⟩; exact ⟨e, h1, h2, h3⟩
  · rintro ⟨e, h1, h2, h3⟩; exact ⟨e, ⟨h1, h2⟩, h3⟩
theorem lastD_z {md : Region.Mode} {l : List Oper} {oz : Oper} (h : lastD md l oz = true) : oz.guard = none ∧ (∀ i, i < l.length → i ∈ reachN md l oz 12) ∧ ∀ e ∈ oz.after, Region.binds md e = true → e.on < l.length := by
  unfold lastD at h
  simp only [Bool.and_eq_true] at h
  refine ⟨by simpa using h.1.1.2, fun i hi => ?_, fun e he hb => ?_⟩
  · have h1 := List.all_eq_true.1 h.1.2 i (List.mem_range.2 hi)
    simpa using h1
  · have := Array.all_eq_true_iff_forall_mem.1 h.2 e he
    rw [hb] at this
    simpa using this
theorem reach_listed {md : Region.Mode} {l : List Oper} {oz : Oper} {listed : Array Bool} (hc : Closed md l listed) (key : ∀ e ∈ oz.after, Region.binds md e = true → listed.getD e.on true = true) : ∀ n i, i ∈ reachN md l oz n → listed.getD i true = true := by
  intro n
  induction n with
  | zero =>
    intro i hi
    obtain ⟨e, he, hb, rfl⟩ := mem_waitsN.1 hi
    exact key e he hb
  | succ n ih =>
    intro i hi
    unfold reachN growN at hi
    rw [List.mem_eraseDups, List.mem_append, List.mem_flatMap] at hi
    rcases hi with hi | ⟨j, hj, hi⟩
    · exact ih i hi
    · cases ho : l[j]? with
      | none => rw [ho] at hi; simp at hi
      | some o =>
        rw [ho] at hi
        obtain ⟨e, he, hb, rfl⟩ := mem_waitsN.1 (by simpa using hi)
        exact hc j o ho (ih j hj) e he hb
theorem wpAny_lastD {md : Region.Mode} {l : List Oper} {oz : Oper} {F : Act → World → Prop} {Q : Exit → Act → World → Prop} (hz : lastD md l oz = true)
    (hF : ∀ a w, F a w → oz.wp P a w (Q .normal) Q ∨ (oz.asks P a w ∧ LetsOut Q)) : ∀ (fuel : Nat) (listed : Array Bool) (a : Act) (w : World), listed.size = l.length → Closed md l listed →
      wpAny P md l.toArray (atEnd F Q) fuel listed a w → wpAny P md (l ++ [oz]).toArray Q (fuel + 1) (listed.push false) a w := by
  obtain ⟨zg, zw, zl⟩ := lastD_z hz
  have small : ∀ {listed : Array Bool} {i : Nat}, listed.size = l.length → i < l.length → (i ∈ Region.ready md (l ++ [oz]).toArray (listed.push false) ↔ i ∈ Region.ready md l.toArray listed) := fun {listed i} hs hi => by
    rw [mem_ready, mem_ready, getD_push _ (by omega), op_left hi]
    refine and_congr_right fun _ => exists_congr fun o => and_congr_right fun ho => ?_
    have hon := (lastD_op hz (by simpa using ho)).2
    refine forall_congr' fun e => forall_congr' fun he => forall_congr' fun hb => ?_
    rw [getD_push _ (by have := hon e he hb; omega)]
  have dead : ∀ {listed : Array Bool}, listed.size = l.length → Region.ready md l.toArray listed = [] → ∀ i, i < l.length → listed.getD i true = true := fun {listed} hs hr i => by
    induction i using Nat.strongRecOn with
    | ind i ih =>
      intro hi
      cases hq : listed.getD i true with
      | true => rfl
      | false =>
        exfalso
        have : i ∈ Region.ready md l.toArray listed := by
          refine mem_ready.2 ⟨hq, l[i], by simp, fun e he hb => ?_⟩
          have hon := (lastD_op hz (i := i) (o := l[i]) (by simp)).2 e he hb
          have := ih e.on hon (by omega)
          rw [Array.getD_eq_getD_getElem?, Array.getElem?_eq_getElem (by omega)] at this ⊢
          simpa using this
        rw [hr] at this
        cases this
  have zready : ∀ {listed : Array Bool}, listed.size = l.length → Closed md l listed → (l.length ∈ Region.ready md (l ++ [oz]).toArray (listed.push false) ↔ ∀ i, i < l.length → listed.getD i true = true) := fun {listed} hs hc => by
    rw [mem_ready]
    constructor
    · rintro ⟨_, o, ho, h⟩ i hi
      rw [op_last] at ho
      injection ho with ho
      subst ho
      have key : ∀ e ∈ oz.after, Region.binds md e = true → listed.getD e.on true = true := fun e he hb => by
        have := h e he hb
        have hl := zl e he hb
        rw [getD_push _ (by omega)] at this
        rw [Array.getD_eq_getD_getElem?, Array.getElem?_eq_getElem (by omega)] at this ⊢
        simpa using this
      exact reach_listed hc key 12 i (zw i hi)
    · intro h
      refine ⟨by simp [Array.getD_eq_getD_getElem?, ← hs], oz, op_last, fun e he hb => ?_⟩
      have hl := zl e he hb
      have := h e.on hl
      rw [getD_push _ (by omega)]
      rw [Array.getD_eq_getD_getElem?, Array.getElem?_eq_getElem (by omega)] at this ⊢
      simpa using this
  have beyond : ∀ {listed : Array Bool} {i : Nat}, i ∈ Region.ready md (l ++ [oz]).toArray (listed.push false) → i ≤ l.length := fun {listed i} h => by
    obtain ⟨_, o, ho, _⟩ := mem_ready.1 h
    have := (Array.getElem?_eq_some_iff.1 ho).1
    simp at this
    omega
  have setp : ∀ {listed : Array Bool} {i : Nat}, i < listed.size → (listed.push false).setIfInBounds i true = (listed.setIfInBounds i true).push false := fun {listed i} h => by
    apply Array.ext_getElem?
    intro k
    rw [Array.getElem?_push, Array.getElem?_setIfInBounds, Array.getElem?_setIfInBounds, Array.getElem?_push]
    simp only [Array.size_setIfInBounds, Array.size_push]
    by_cases e : i = k
    · subst e
      simp [Nat.ne_of_lt h, h, show i < listed.size + 1 from by omega]
    · rw [if_neg e, if_neg e]
  -- all others have come up
  have finish : ∀ (fuel : Nat) (listed : Array Bool) (a : Act) (w : World), listed.size = l.length → Closed md l listed → Region.ready md l.toArray listed = [] → F a w → wpAny P md (l ++ [oz]).toArray Q (fuel + 1) (listed.push false) a w := fun fuel listed a w hs hc hr hf => by
    have hall := dead hs hr
    have hzr := (zready hs hc).2 hall
    refine ⟨(fun h => by rw [h] at hzr; cases hzr), fun i hi => ?_⟩
    have hib := beyond hi
    rcases Nat.lt_or_ge i l.length with h1 | h1
    · have := (small hs h1).1 hi
      rw [hr] at this; cases this
    · have e : i = l.length := by omega
      subst e
      unfold wpOp
      rw [op_last]
      simp only
      rw [if_pos (by unfold Region.wanted; rw [zg])]
      refine (hF a w hf).imp (fun hq0 => Oper.wp_mono (fun a' w' hq => ?_) hq0) id
      have hnone : Region.ready md (l ++ [oz]).toArray ((listed.push false).setIfInBounds l.length true) = [] := by
        rw [List.eq_nil_iff_forall_not_mem]
        intro k hk
        obtain ⟨h2, o, ho, _⟩ := mem_ready.1 hk
        have hkl := (Array.getElem?_eq_some_iff.1 ho).1
        simp at hkl
        rcases Nat.lt_or_ge k l.length with h3 | h3
        · have := hall k h3
          rw [Array.getD_eq_getD_getElem?] at this h2
          rw [Array.getElem?_setIfInBounds_ne (by omega), Array.getElem?_push, if_neg (by omega)] at h2
          rw [this] at h2; cases h2
        · have e : k = l.length := by omega
          subst e
          rw [Array.getD_eq_getD_getElem?, Array.getElem?_setIfInBounds_self] at h2
          simp [hs] at h2
      cases fuel with
      | zero => exact ⟨hnone, hq⟩
      | succ f => exact ⟨fun _ => hq, by rw [hnone]; simp⟩
  intro fuel
  induction fuel with
  | zero => intro listed a w hs hc h; exact finish 0 listed a w hs hc h.1 h.2
  | succ f ih =>
    intro listed a w hs hc h
    by_cases hr : Region.ready md l.toArray listed = []
    · exact finish (f + 1) listed a w hs hc hr (h.1 hr)
    · obtain ⟨i0, hi0⟩ := List.exists_mem_of_ne_nil _ hr
      have hi0l : i0 < l.length := by
        obtain ⟨_, o, ho, _⟩ := mem_ready.1 hi0
        have := (Array.getElem?_eq_some_iff.1 ho).1
        simpa using this
      have hun := (mem_ready.1 hi0).1
      have hr' := (small hs hi0l).2 hi0
      refine ⟨(fun h0 => by rw [h0] at hr'; cases hr'), fun i hi => ?_⟩
      have hib := beyond hi
      rcases Nat.lt_or_ge i l.length with h1 | h1
      · have h2 := h.2 i ((small hs h1).1 hi)
        unfold wpOp at h2 ⊢
        rw [op_left h1]
        have hsome : l.toArray[i]? = some l[i] := by simp
        rw [hsome] at h2 ⊢
        simp only at h2 ⊢
        have hg := (lastD_op hz (i := i) (o := l[i]) (by simp)).1
        rw [if_pos (by unfold Region.wanted; rw [hg])] at h2 ⊢
        refine h2.imp (fun h3 => ?_) (fun h3 => ⟨h3.1, h3.2⟩)
        refine Oper.wp_mono (fun a' w' h4 => ?_) (wp_atEnd h3)
        rw [setp (by omega)]
        refine ih _ a' w' (by simpa using hs) ?_ h4
        exact closed_set (by omega) hc ((small hs h1).1 hi)
      · have e : i = l.length := by omega
        subst e
        have := (zready hs hc).1 hi i0 hi0l
        rw [Array.getD_eq_getD_getElem?, Array.getElem?_eq_getElem (by omega)] at this hun
        simp at this hun
        rw [this] at hun; cases hun
/-- the last operation of a drawn region by itself; a condition on the world is held till then -/
theorem region_lastD {id : Nat} {l m : List Oper} {oz : Oper} {Q : Exit → Act → World → Prop} {a : Act} {w : World} {S : World → Prop} (hm : P.follows .mixedOrders = true) (hl : l.getLast? = some oz) (hd : l.dropLast = m) (hz : lastD .any m oz = true) (hS : S w.drew)
    (h : S w.drew → wpAnyH P .any m.toArray (atEnd (fun a w => wpList P #[oz] Q [oz] a w) Q) S m.length (Array.replicate m.length false) a w.drew) : (Code.region id l.toArray true).wp P Q a w := by
  subst hd
  have e : l = l.dropLast ++ [oz] := by
    obtain ⟨r, rfl⟩ := List.getLast?_eq_some_iff.1 hl
    simp
  generalize l.dropLast = m at *
  subst e
  refine wp_region_any hm ?_
  have hF : ∀ a w, wpList P #[oz] Q [oz] a w → oz.wp P a w (Q .normal) Q ∨ (oz.asks P a w ∧ LetsOut Q) := fun a w h => by
    have hg := (lastD_z hz).1
    unfold wpList at h
    rw [if_pos (by unfold Region.wanted; rw [hg])] at h
    exact h
  have := wpAny_lastD hz hF m.length (Array.replicate m.length false) a _ (by simp) (closed_none .any m) (wpAny_of_held _ _ _ _ (h hS))
  have e1 : (Array.replicate m.length false).push false = Array.replicate (m ++ [oz]).toArray.size false := by simp [Array.replicate_succ]
  rw [e1] at this
  simpa using this
theorem atEnd_atEnd (F G : Act → World → Prop) (Q : Exit → Act → World → Prop) : atEnd F (atEnd G Q) = atEnd F Q := by
  funext e a w
  cases e <;> rfl
theorem wp_toEnd {F : Act → World → Prop} {Q : Exit → Act → World → Prop} {o : Oper} {a : Act} {w : World} {K : Act → World → Prop} (h : o.wp P a w K Q) : o.wp P a w K (atEnd F Q) := by
  unfold Oper.wp at *
  generalize (execOp a.eval o).run P w = r at *
  cases r with
  | ok n w' =>
    cases n with
    | value u => exact h
    | skip => exact h
    | defer d => exact h
    | enter f args =>
      refine Calls.mono h fun e w'' he => ?_
      cases e with
      | returned u => exact he
      | panicked c => exact he
      | outgrown => exact he
    | _ => exact h
  | halt x w' =>
    cases x with
    | panic u => exact h
    | _ => exact h
/-- each operation of the tail waits for all before it -/
def sufB (md : Region.Mode) : List Oper → List Oper → Bool
  | _, [] => true
  | l, o :: t => lastD md l o && sufB md (l ++ [o]) t
theorem wpAny_suf {md : Region.Mode} {Q : Exit → Act → World → Prop} : ∀ (t l : List Oper) (fuel : Nat) (listed : Array Bool) (a : Act) (w : World), sufB md l t = true → listed.size = l.length → Closed md l listed →
      wpAny P md l.toArray (atEnd (fun a w => wpList P #[] Q t a w) Q) fuel listed a w → ∃ listed', listed' = listed ++ Array.replicate t.length false ∧ wpAny P md (l ++ t).toArray Q (fuel + t.length) listed' a w := by
  intro t
  induction t with
  | nil =>
    intro l fuel listed a w _ _ _ h
    refine ⟨_, rfl, ?_⟩
    have e : atEnd (fun a w => wpList P #[] Q [] a w) Q = Q := by funext e a w; cases e <;> rfl
    rw [e] at h
    simpa using h
  | cons o t ih =>
    intro l fuel listed a w hz hs hc h
    unfold sufB at hz
    rw [Bool.and_eq_true] at hz
    have hF : ∀ a w, wpList P #[] Q (o :: t) a w → o.wp P a w (atEnd (fun a w => wpList P #[] Q t a w) Q .normal) (atEnd (fun a w => wpList P #[] Q t a w) Q) ∨ (o.asks P a w ∧ LetsOut (atEnd (fun a w => wpList P #[] Q t a w) Q)) := fun a w h => by
      have hg := (lastD_z hz.1).1
      unfold wpList at h
      rw [if_pos (by unfold Region.wanted; rw [hg])] at h
      rcases h with h | ⟨h1, h2⟩
      · exact .inl (wp_toEnd h)
      · exact .inr ⟨h1, h2⟩
    have h1 := wpAny_lastD (Q := atEnd (fun a w => wpList P #[] Q t a w) Q) hz.1 hF fuel listed a w hs hc (by rw [atEnd_atEnd]; exact h)
    have hc1 : Closed md (l ++ [o]) (listed.push false) := fun i o' ho hi e he hb => by
      rcases Nat.lt_or_ge i l.length with hl | hl
      · rw [List.getElem?_append_left hl] at ho
        rw [getD_push _ (by omega)] at hi
        have := hc i o' ho hi e he hb
        have hlt := (lastD_op hz.1 ho).2 e he hb
        rw [getD_push _ (by omega)]
        exact this
      · have hlen := (List.getElem?_eq_some_iff.1 ho).1
        rw [List.length_append, List.length_singleton] at hlen
        have e1 : i = listed.size := by omega
        subst e1
        simp [Array.getD_eq_getD_getElem?] at hi
    obtain ⟨L, hL, h2⟩ := ih (l ++ [o]) (fuel + 1) (listed.push false) a w hz.2 (by simp [hs]) hc1 h1
    refine ⟨L, ?_, ?_⟩
    · rw [hL]
      apply Array.ext'
      simp [List.replicate_succ]
    · rw [List.append_assoc, List.singleton_append] at h2
      rw [List.length_cons, show fuel + (t.length + 1) = fuel + 1 + t.length from by omega]
      exact h2
/-- the last operations of a drawn region, a row of which each waits for all before; a condition on the world is held till then -/
theorem region_suf {id : Nat} {l m t : List Oper} {n : Nat} {Q : Exit → Act → World → Prop} {a : Act} {w : World} {S : World → Prop} (hm : P.follows .mixedOrders = true) (h1 : l.take n = m) (h2 : l.drop n = t) (hz : sufB .any m t = true) (hS : S w.drew)
    (h : S w.drew → wpAnyH P .any m.toArray (atEnd (fun a w => wpList P #[] Q t a w) Q) S m.length (Array.replicate m.length false) a w.drew) : (Code.region id l.toArray true).wp P Q a w := by
  have e : l = m ++ t := by rw [← h1, ← h2, List.take_append_drop]
  subst e
  refine wp_region_any hm ?_
  obtain ⟨L, hL, h3⟩ := wpAny_suf t m m.length (Array.replicate m.length false) a _ hz (by simp) (closed_none .any m) (wpAny_of_held _ _ _ _ (h hS))
  have e1 : L = Array.replicate (m ++ t).toArray.size false := by
    rw [hL]
    apply Array.ext'
    simp
  rw [e1] at h3
  simpa using h3
end
end Go.Proofs.Ytcnjlkabdfcjdaa
/- Squares of linear forms over a field, in the reference. No condition beyond those stated. -/
namespace Go.Proofs.Ytcnjlkabdfcjdaa
open Go.RowKit

/-- rows of one shape and numbers in range -/
structure ShR (n : Nat) (zss : List (List Int)) : Prop where
  sh : ∀ i, i < n → (row zss i).length = n ∧ ∀ j, j < n → 0 ≤ nth (row zss i) j ∧ nth (row zss i) j < (n : Int)
  len : zss.length = n
theorem ShR.put {n : Nat} {zss : List (List Int)} (h : ShR n zss) {i j : Nat} {u : Int} (hi : i < n) (_ : j < n) (h0 : 0 ≤ u) (h1 : u < (n : Int)) : ShR n (zss.set i ((row zss i).set j u)) := by
  refine ⟨fun t ht => ?_, by rw [List.length_set, h.len]⟩
  by_cases e : t = i
  · subst e
    have : row (zss.set t ((row zss t).set j u)) t = (row zss t).set j u := by
      rw [row_get (by rw [List.length_set, h.len]; exact hi), List.getElem_set_self]
    rw [this]
    refine ⟨by rw [List.length_set]; exact (h.sh t ht).1, fun k hk => ?_⟩
    rw [nth_get (by rw [List.length_set, (h.sh t ht).1]; exact hk), List.getElem_set]
    split
    · exact ⟨h0, h1⟩
    · rw [← nth_get (by rw [(h.sh t ht).1]; exact hk)]
      exact (h.sh t ht).2 k hk
  · have : row (zss.set i ((row zss i).set j u)) t = row zss t := by
      unfold row
      simp only [List.getD_eq_getElem?_getD]
      rw [List.getElem?_set_ne (fun e2 => e e2.symm)]
    rw [this]
    exact h.sh t ht
theorem ShR.zero {n : Nat} (hn : 0 < n) : ShR n (zerosP n n) := by
  refine ⟨fun i hi => ?_, zerosP_len _ _⟩
  have e : row (zerosP n n) i = List.replicate n 0 := by
    exact zerosP_row hi
  rw [e]
  refine ⟨by simp, fun j hj => ?_⟩
  rw [nth_get (by simp; exact hj)]
  simp
  omega
set_option maxRecDepth 100000 in
set_option maxHeartbeats 4000000 in
theorem l07Square_any {p : Int} {k : Nat} (hm : (p, k) ∈ PKL) (n : Nat) (m : Int) (w : World) (hq : p ^ k = (n : Int)) (hn : n ≤ 10) (hm1 : 0 ≤ m ∧ m ≤ 64) :
    Calls Try.prog 88 #[.int .i64 n, .int .i64 m] w fun e w' => ∃ A c zss, e = .returned (.slice A n c) ∧ OR w' w.heap.size 30 2 A n c zss ∧ ShR n zss ∧ Below w.heap.size w w' := by
  obtain ⟨m1, m2, m3, m4, m5⟩ := PKL_ok hm
  obtain ⟨p2, p61⟩ := PR_bd m1
  have hFZ := (mkP_ok hm).1
  have hFO : FldOk p k (mkP p k) := by have := hFZ.2; rwa [Int.toNat_natCast] at this
  have hp0 : 0 < p := by omega
  have HMB := Lib.hid (fun (a b : Int) => (show 0 ≤ mulP p k (mkP p k) a b ∧ mulP p k (mkP p k) a b < (n : Int) from by rw [← hq]; exact mulP_bd hp0 k (mkP p k) a b))
  have HSB := Lib.hid (fun (c a b : Int) => (show 0 ≤ sumP p k c a b ∧ sumP p k c a b < (n : Int) from by rw [← hq]; exact sumP_bd hp0 k c a b))
  have hn1 : 0 < n := by
    have := HMB.out 0 0
    omega
  have hmk := l03Make_any hm (n : Int) w hq
  clear hFZ
  go_enter Try.func88, Try.ntmps88
  go_wp2_with (fail)
  refine hmk.mono ?_
  rintro e w1 ⟨A0, n0, c0, rfl, hof, hb1⟩
  have hb2 := below_alloc w1 (.cells #[.int .i64 p, .int .i64 (k : Int), .slice A0 n0 c0] 119)
  have X := Blk.new w1 119 #[.int .i64 p, .int .i64 (k : Int), .slice A0 n0 c0]
  have hri := hof.reads.keep hb2
  have hbw := hb1.trans (hb2.mono hb1.size)
  have hF : FAt (w1.alloc (.cells #[.int .i64 p, .int .i64 (k : Int), .slice A0 n0 c0] 119)) w1.heap.size p k A0 n0 c0 (mkP p k) := ⟨X.cell 0, X.cell 1, X.cell 2, hri⟩
  clear hof hb1 hb2 X hri hmk
  go_wp2_with (fail)
  generalize w1.alloc (.cells #[.int .i64 p, .int .i64 (k : Int), .slice A0 n0 c0] 119) = w2 at *
  generalize w1.heap.size = g at *
  refine (l06Zero_any n n w2 (by omega) (by omega)).mono ?_
  rintro e w3 ⟨A, n3, c, rfl, ho, hb3⟩
  obtain rfl : n3 = n := by rw [← ho.len, zerosP_len]
  have hz := ShR.zero hn1
  have hbs := hbw.size
  go_wp2
  go_loopw [7, 8, 9] (fun i _ _ wr => ∃ (x : Nat) (zss : List (List Int)), x ≤ n3 ∧ i = .int .i64 x ∧ OR wr w2.heap.size 30 2 A n3 c zss ∧ ShR n3 zss ∧ Below w2.heap.size w2 wr) (fun i _ _ _ => n3 - (intOf i).toNat)
  case atStart => exact ⟨0, _, Nat.zero_le _, rfl, ho, hz, hb3⟩
  case round =>
    clear ho hz hb3
    obtain ⟨x, zss, hx, rfl, ho, hz, hb⟩ := hrel
    by_cases hlt : x < n3
    · have hmul := l03Mul_any g p k A0 n0 c0 (mkP p k) m (x : Int) wr (hF.keep hb) hFO hm1 ⟨by omega, by omega⟩
      have hmb := HMB.out m (x : Int)
      generalize mulP p k (mkP p k) m (x : Int) = mx at *
      go_wp2_with (fail)
      refine hmul.mono ?_
      rintro e w4 ⟨rfl, hb4⟩
      have ho := ho.below hb4
      have hb := hb.trans (hb4.mono hb.size)
      clear hmul hb4
      go_wp2
      go_loopw [9] (fun i wr => ∃ (y : Nat) (zss : List (List Int)), y ≤ n3 ∧ i = .int .i64 y ∧ OR wr w2.heap.size 30 2 A n3 c zss ∧ ShR n3 zss ∧ Below w2.heap.size w2 wr) (fun i _ => n3 - (intOf i).toNat)
      case atStart => exact ⟨0, _, Nat.zero_le _, rfl, ho, hz, hb⟩
      case round =>
        clear ho hz hb
        obtain ⟨y, zss, hy, rfl, ho, hz, hb⟩ := hrel
        by_cases hyl : y < n3
        · have hdr : Below wr.heap.size wr wr.drew := by have := below_drewn wr 1; rwa [← World.drew_is_drewN] at this
          obtain ⟨vs, hov⟩ := ho.below hdr
          have hb5 := hb.trans (hdr.mono hb.size)
          obtain ⟨gA, r, rm, rk, rfl, co, fo, hm2, mle, kk1, ci, fi, br, rl, iz, hset⟩ := hov.at2 hlt (j := y) (by rw [(hz.sh x hlt).1]; exact hyl)
          have hrm : rm = n3 := by rw [← hm2]; exact (hz.sh x hlt).1
          have hsb := HSB.out 1 mx (y : Int)
          go_wp2
          refine region_suf (P := Try.prog) (n := 8) (S := fun w' => w'.cell? ⟨gA, x, none⟩ = some (.slice (some ⟨r, 0, none⟩) rm rk)) (by kernel_rfl) (by simp only [List.take_succ_cons, List.take_zero]; rfl) (by simp only [List.drop_succ_cons, List.drop_zero]; rfl) (by kernel_rfl) (by simpa using co) ?_
          intro hS0
          generalize wr.drew = W2 at *
          refine wpAnyH_take (i := 0) (v := ?_) rfl (by kernel_rfl) (by kernel_rfl) (by kernel_rfl) (fun _ _ _ h => h) (Or.inl ⟨by rfl, ?_⟩) (by assumption) ?_
          rotate_left
          · (intro w hSw; (try dsimp only at hSw); go_simp; (try with_reducible rfl))
          simp only [Act.put, List.setIfInBounds_toArray, List.set_cons_zero, List.set_cons_succ]
          refine wpAnyH_take (i := 1) (v := ?_) rfl (by kernel_rfl) (by kernel_rfl) (by kernel_rfl) (fun _ _ _ h => h) (Or.inl ⟨by rfl, ?_⟩) (by assumption) ?_
          rotate_left
          · (intro w hSw; (try dsimp only at hSw); go_simp; (try with_reducible rfl))
          simp only [Act.put, List.setIfInBounds_toArray, List.set_cons_zero, List.set_cons_succ]
          refine wpAnyH_take (i := 2) (v := ?_) rfl (by kernel_rfl) (by kernel_rfl) (by kernel_rfl) (fun _ _ _ h => h) (Or.inl ⟨by rfl, ?_⟩) (by assumption) ?_
          rotate_left
          · (intro w hSw; (try dsimp only at hSw); go_simp; (try with_reducible rfl))
          simp only [Act.put, List.setIfInBounds_toArray, List.set_cons_zero, List.set_cons_succ]
          refine wpAnyH_take (i := 3) (v := ?_) rfl (by kernel_rfl) (by kernel_rfl) (by kernel_rfl) (fun _ _ _ h => h) (Or.inl ⟨by rfl, ?_⟩) (by assumption) ?_
          rotate_left
          · (intro w hSw; (try dsimp only at hSw); go_simp; (try with_reducible rfl))
          simp only [Act.put, List.setIfInBounds_toArray, List.set_cons_zero, List.set_cons_succ]
          refine wpAnyH_take (i := 4) (v := ?_) rfl (by kernel_rfl) (by kernel_rfl) (by kernel_rfl) (fun _ _ _ h => h) (Or.inl ⟨by rfl, ?_⟩) (by assumption) ?_
          rotate_left
          · (intro w hSw; (try dsimp only at hSw); go_simp; (try with_reducible rfl))
          simp only [Act.put, List.setIfInBounds_toArray, List.set_cons_zero, List.set_cons_succ]
          refine wpAnyH_take (i := 5) (v := ?_) rfl (by kernel_rfl) (by kernel_rfl) (by kernel_rfl) (fun _ _ _ h => h) (Or.inl ⟨by rfl, ?_⟩) (by assumption) ?_
          rotate_left
          · (intro w hSw; (try dsimp only at hSw); go_simp; (try with_reducible rfl))
          simp only [Act.put, List.setIfInBounds_toArray, List.set_cons_zero, List.set_cons_succ]
          refine wpAnyH_take (i := 6) (v := ?_) rfl (by kernel_rfl) (by kernel_rfl) (by kernel_rfl) (fun _ _ _ h => h) (Or.inl ⟨by rfl, ?_⟩) (by assumption) ?_
          rotate_left
          · (intro w hSw; (try dsimp only at hSw); go_simp; (try with_reducible rfl))
          simp only [Act.put, List.setIfInBounds_toArray, List.set_cons_zero, List.set_cons_succ]
          refine wpAnyH_ready (rs := [7]) (by kernel_rfl) (by simp) ?_
          refine AllReadyH.cons rfl (fun K hK => ?_) AllReadyH.nil
          go_simp
          have hsum := l03Sum_any g p k A0 n0 c0 (mkP p k) mx (y : Int) 1 W2 (hF.keep hb5) p2 p61 (by omega) (by omega) ⟨by omega, by omega⟩ ⟨by omega, by omega⟩ ⟨by omega, by omega⟩
          refine hsum.mono ?_
          rintro e w6 ⟨rfl, hb6⟩
          generalize sumP p k 1 mx (y : Int) = sv at *
          have hb7 := hb5.trans (hb6.mono hb5.size)
          obtain ⟨gA', r', rm', rk', hgA, co', fo', hm2', mle', kk1', ci', fi', br', rl', iz', hset'⟩ := (hov.below hb6).at2 hlt (j := y) (by rw [(hz.sh x hlt).1]; exact hyl)
          injection hgA with hgA
          injection hgA with hgA
          subst hgA
          have hc6 := below_cell hb6 co
          have e9 := co'.symm.trans hc6
          injection e9 with e9
          injection e9 with e9 e9b e9c
          injection e9 with e9
          injection e9 with e9
          subst e9 e9b e9c
          have ho8 := Lib.hid (hset' sv (by unfold I64; omega))
          have hz8 := Lib.hid (hz.put hlt hyl hsb.1 hsb.2)
          have hb8 := Lib.hid (hb7.setCell (p := ⟨r', y, none⟩) br' (.int .i64 sv))
          dsimp only
          refine hK.out _ _ hc6 (fun hS1 => ?_)
          clear hK K hS0
          refine wpAnyH_done (by kernel_rfl) ?_ _
          dsimp only [atEnd]
          have hyr : y < rm' := by omega
          clear hset hset' hS1 hov hsum hb6 hm2 hm2' hc6 co fo ci fi hz hrm
          go_wp2
          go_roundw
          case rel => exact ⟨y + 1, _, by omega, by go_num, ⟨vs, ho8.out⟩, hz8.out, hb8.out⟩
          case measure => simp [intOf]; omega
        · obtain rfl : y = n3 := by omega
          go_wp2
          go_roundw
          case rel => exact ⟨x + 1, zss, by omega, by go_num, ho, hz, hb⟩
          case measure => simp [intOf]; omega
    · obtain rfl : x = n3 := by omega
      have hor := Lib.hid (ho.more hbs)
      have hbb := Lib.hid (hbw.trans (hb.mono hbs))
      go_wp2
      go_ret
      exact ⟨A, c, zss, rfl, hor.out, hz, hbb.out⟩
end Go.Proofs.Ytcnjlkabdfcjdaa
