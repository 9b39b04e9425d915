/- A region that draws its order, its last operation one that waits for all others: the others are walked first, then it. Over any program. No condition beyond those stated. -/
import Derived.Deep.RegionHeldLaw
import Derived.Deep.DrawnRows
import Derived.WalkKit
import Derived.Test.YtncknfhfkmmhbaaGreatZAX
import Derived.Test.YtncknfhfkmmhbaaGreatZAL
import Derived.Test.YtncknfhfkmmhbaaGreatZAF
import Derived.Test.YtncknfhfkmmhbaaGreatZAN
import Derived.StillTailTactics
set_option linter.unusedVariables false
set_option linter.unusedSimpArgs false
namespace Go.Proofs.YtncknfhfkmmhbaaGreat
open Go

section
variable {P : Program}
def atEnd (F : Act → World → Prop) (Q : Exit → Act → World → Prop) : Exit → Act → World → Prop
  | .normal, a, w => F a w
  | e, a, w => Q e a w
theorem wp_atEnd {F : Act → World → Prop} {Q : Exit → Act → World → Prop} {o : Oper} {a : Act} {w : World} {K : Act → World → Prop} (h : o.wp P a w K (atEnd F Q)) : o.wp P a w K Q := by
  unfold Oper.wp at *
  generalize (execOp a.eval o).run P w = r at *
  cases r with
  | ok n w' =>
    cases n with
    | value u => exact h
    | skip => exact h
    | defer d => exact h
    | enter f args =>
      refine Calls.mono h fun e w'' he => ?_
      cases e with
      | returned u => exact he
      | panicked c => exact he
      | outgrown => exact he
    | _ => exact h
  | halt x w' =>
    cases x with
    | panic u => exact h
    | _ => exact h
/-- what follows one operation alone -/
def onlyK (K : Act → World → Prop) (Q : Exit → Act → World → Prop) : Exit → Act → World → Prop
  | .normal, a, w => K a w
  | .panic c, a, w => Q (.panic c) a w
  | _, _, _ => False
theorem list_onlyK {ops : Array Oper} {Q : Exit → Act → World → Prop} {a : Act} {w : World} {K : Act → World → Prop} (h : K a w) : wpList P ops (onlyK K Q) [] a w := h
theorem wp_onlyK {Q : Exit → Act → World → Prop} {o : Oper} {a : Act} {w : World} {K : Act → World → Prop} (h : o.wp P a w K (onlyK K Q)) : o.wp P a w K Q := by
  unfold Oper.wp at *
  generalize (execOp a.eval o).run P w = r at *
  cases r with
  | ok n w' =>
    cases n with
    | value u => exact h
    | skip => exact h
    | defer d => exact h
    | enter f args =>
      refine Calls.mono h fun e w'' he => ?_
      cases e with
      | returned u => exact he
      | panicked c => exact he
      | outgrown => obtain ⟨_, _, h0⟩ := he; exact h0.elim
    | row row args => exact h
    | _ => exact h
  | halt x w' =>
    cases x with
    | panic u => exact h
    | _ => exact h
/-- a law for a plain list of operations, at a step of a drawn region -/
theorem step_of_list {ops : Array Oper} {Q : Exit → Act → World → Prop} {o : Oper} {a : Act} {w : World} {K : Act → World → Prop} {E : Prop} (hgd : o.guard = none) (h : wpList P #[] (onlyK K Q) [o] a w) :
    if Region.wanted o (yielded ops a.tmps) = true then Oper.wp P o a w K Q else E := by
  have hw : ∀ f, Region.wanted o f = true := fun f => by unfold Region.wanted; rw [hgd]
  rw [if_pos (hw _)]
  unfold wpList at h
  rw [if_pos (hw _)] at h
  rcases h with h | ⟨_, _, _, h⟩
  · exact wp_onlyK h
  · exact h.elim
/-- every operation waits for earlier ones alone and has no guard; the last one waits for all others -/
def lastB (md : Region.Mode) (l : List Oper) (oz : Oper) : Bool :=
  ((List.range l.length).all fun i => ((l[i]?).map fun o => o.guard.isNone && o.after.all fun e => decide (e.on < i)).getD true) && oz.guard.isNone && ((List.range l.length).all fun i => oz.after.any fun e => Region.binds md e && e.on == i) && oz.after.all fun e => decide (e.on < l.length)
theorem lastB_op {md : Region.Mode} {l : List Oper} {oz : Oper} (h : lastB md l oz = true) {i : Nat} {o : Oper} (hi : l[i]? = some o) : o.guard = none ∧ ∀ e ∈ o.after, e.on < i := by
  unfold lastB at h
  simp only [Bool.and_eq_true] at h
  have hl := (List.getElem?_eq_some_iff.1 hi).1
  have h1 := List.all_eq_true.1 h.1.1.1 i (List.mem_range.2 hl)
  rw [hi] at h1
  simp only [Option.map_some, Option.getD_some, Bool.and_eq_true] at h1
  refine ⟨by simpa using h1.1, fun e he => ?_⟩
  have := Array.all_eq_true_iff_forall_mem.1 h1.2 e he
  simpa using this
theorem lastB_z {md : Region.Mode} {l : List Oper} {oz : Oper} (h : lastB md l oz = true) : oz.guard = none ∧ (∀ i, i < l.length → ∃ e ∈ oz.after, Region.binds md e = true ∧ e.on = i) ∧ ∀ e ∈ oz.after, e.on < l.length := by
  unfold lastB at h
  simp only [Bool.and_eq_true] at h
  refine ⟨by simpa using h.1.1.2, fun i hi => ?_, fun e he => ?_⟩
  · have h1 := List.all_eq_true.1 h.1.2 i (List.mem_range.2 hi)
    obtain ⟨j, hj, hq⟩ := Array.any_eq_true.1 h1
    simp at hq
    exact ⟨oz.after[j], Array.getElem_mem hj, hq.1, hq.2⟩
  · have := Array.all_eq_true_iff_forall_mem.1 h.2 e he
    simpa using this
theorem op_left {l : List Oper} {oz : Oper} {i : Nat} (h : i < l.length) : (l ++ [oz]).toArray[i]? = l.toArray[i]? := by simp [List.getElem?_append_left h]
theorem op_last {l : List Oper} {oz : Oper} : (l ++ [oz]).toArray[l.length]? = some oz := by simp
theorem getD_push {listed : Array Bool} {i : Nat} (d : Bool) (h : i < listed.size) : (listed.push false).getD i d = listed.getD i d := by
  simp [Array.getD_eq_getD_getElem?, Array.getElem?_push, Nat.ne_of_lt h]
theorem wpAny_last {md : Region.Mode} {l : List Oper} {oz : Oper} {F : Act → World → Prop} {Q : Exit → Act → World → Prop} (hz : lastB md l oz = true)
    (hF : ∀ a w, F a w → oz.wp P a w (Q .normal) Q ∨ (oz.asks P a w ∧ LetsOut Q)) : ∀ (fuel : Nat) (listed : Array Bool) (a : Act) (w : World), listed.size = l.length →
      wpAny P md l.toArray (atEnd F Q) fuel listed a w → wpAny P md (l ++ [oz]).toArray Q (fuel + 1) (listed.push false) a w := by
  obtain ⟨zg, zw, zl⟩ := lastB_z hz
  have small : ∀ {listed : Array Bool} {i : Nat}, listed.size = l.length → i < l.length → (i ∈ Region.ready md (l ++ [oz]).toArray (listed.push false) ↔ i ∈ Region.ready md l.toArray listed) := fun {listed i} hs hi => by
    rw [mem_ready, mem_ready, getD_push _ (by omega), op_left hi]
    refine and_congr_right fun _ => exists_congr fun o => and_congr_right fun ho => ?_
    have hon := (lastB_op hz (by simpa using ho)).2
    refine forall_congr' fun e => forall_congr' fun he => ?_
    rw [getD_push _ (by have := hon e he; omega)]
  have dead : ∀ {listed : Array Bool}, listed.size = l.length → Region.ready md l.toArray listed = [] → ∀ i, i < l.length → listed.getD i true = true := fun {listed} hs hr i => by
    induction i using Nat.strongRecOn with
    | ind i ih =>
      intro hi
      cases hq : listed.getD i true with
      | true => rfl
      | false =>
        exfalso
        have : i ∈ Region.ready md l.toArray listed := by
          refine mem_ready.2 ⟨hq, l[i], by simp, fun e he _ => ?_⟩
          have hon := (lastB_op hz (i := i) (o := l[i]) (by simp)).2 e he
          have := ih e.on hon (by omega)
          rw [Array.getD_eq_getD_getElem?, Array.getElem?_eq_getElem (by omega)] at this ⊢
          simpa using this
        rw [hr] at this
        cases this
  have zready : ∀ {listed : Array Bool}, listed.size = l.length → (l.length ∈ Region.ready md (l ++ [oz]).toArray (listed.push false) ↔ ∀ i, i < l.length → listed.getD i true = true) := fun {listed} hs => by
    rw [mem_ready]
    constructor
    · rintro ⟨_, o, ho, h⟩ i hi
      rw [op_last] at ho
      injection ho with ho
      subst ho
      obtain ⟨e, he, hb, rfl⟩ := zw i hi
      have := h e he hb
      rw [getD_push _ (by omega)] at this
      rw [Array.getD_eq_getD_getElem?, Array.getElem?_eq_getElem (by omega)] at this ⊢
      simpa using this
    · intro h
      refine ⟨by simp [Array.getD_eq_getD_getElem?, ← hs], oz, op_last, fun e he hb => ?_⟩
      have hl := zl e he
      have := h e.on hl
      rw [getD_push _ (by omega)]
      rw [Array.getD_eq_getD_getElem?, Array.getElem?_eq_getElem (by omega)] at this ⊢
      simpa using this
  have beyond : ∀ {listed : Array Bool} {i : Nat}, i ∈ Region.ready md (l ++ [oz]).toArray (listed.push false) → i ≤ l.length := fun {listed i} h => by
    obtain ⟨_, o, ho, _⟩ := mem_ready.1 h
    have := (Array.getElem?_eq_some_iff.1 ho).1
    simp at this
    omega
  have setp : ∀ {listed : Array Bool} {i : Nat}, i < listed.size → (listed.push false).setIfInBounds i true = (listed.setIfInBounds i true).push false := fun {listed i} h => by
    apply Array.ext_getElem?
    intro k
    rw [Array.getElem?_push, Array.getElem?_setIfInBounds, Array.getElem?_setIfInBounds, Array.getElem?_push]
    simp only [Array.size_setIfInBounds, Array.size_push]
    by_cases e : i = k
    · subst e
      simp [Nat.ne_of_lt h, h, show i < listed.size + 1 from by omega]
    · rw [if_neg e, if_neg e]
  -- all others have come up
  have finish : ∀ (fuel : Nat) (listed : Array Bool) (a : Act) (w : World), listed.size = l.length → Region.ready md l.toArray listed = [] → F a w → wpAny P md (l ++ [oz]).toArray Q (fuel + 1) (listed.push false) a w := fun fuel listed a w hs hr hf => by
    have hall := dead hs hr
    have hzr := (zready hs).2 hall
    refine ⟨(fun h => by rw [h] at hzr; cases hzr), fun i hi => ?_⟩
    have hib := beyond hi
    rcases Nat.lt_or_ge i l.length with h1 | h1
    · have := (small hs h1).1 hi
      rw [hr] at this; cases this
    · have e : i = l.length := by omega
      subst e
      unfold wpOp
      rw [op_last]
      simp only
      rw [if_pos (by unfold Region.wanted; rw [zg])]
      refine (hF a w hf).imp (fun hq0 => Oper.wp_mono (fun a' w' hq => ?_) hq0) id
      have hnone : Region.ready md (l ++ [oz]).toArray ((listed.push false).setIfInBounds l.length true) = [] := by
        rw [List.eq_nil_iff_forall_not_mem]
        intro k hk
        obtain ⟨h2, o, ho, _⟩ := mem_ready.1 hk
        have hkl := (Array.getElem?_eq_some_iff.1 ho).1
        simp at hkl
        rcases Nat.lt_or_ge k l.length with h3 | h3
        · have := hall k h3
          rw [Array.getD_eq_getD_getElem?] at this h2
          rw [Array.getElem?_setIfInBounds_ne (by omega), Array.getElem?_push, if_neg (by omega)] at h2
          rw [this] at h2; cases h2
        · have e : k = l.length := by omega
          subst e
          rw [Array.getD_eq_getD_getElem?, Array.getElem?_setIfInBounds_self] at h2
          simp [hs] at h2
      cases fuel with
      | zero => exact ⟨hnone, hq⟩
      | succ f => exact ⟨fun _ => hq, by rw [hnone]; simp⟩
  intro fuel
  induction fuel with
  | zero => intro listed a w hs h; exact finish 0 listed a w hs h.1 h.2
  | succ f ih =>
    intro listed a w hs h
    by_cases hr : Region.ready md l.toArray listed = []
    · exact finish (f + 1) listed a w hs hr (h.1 hr)
    · obtain ⟨i0, hi0⟩ := List.exists_mem_of_ne_nil _ hr
      have hi0l : i0 < l.length := by
        obtain ⟨_, o, ho, _⟩ := mem_ready.1 hi0
        have := (Array.getElem?_eq_some_iff.1 ho).1
        simpa using this
      have hun := (mem_ready.1 hi0).1
      have hr' := (small hs hi0l).2 hi0
      refine ⟨(fun h0 => by rw [h0] at hr'; cases hr'), fun i hi => ?_⟩
      have hib := beyond hi
      rcases Nat.lt_or_ge i l.length with h1 | h1
      · have h2 := h.2 i ((small hs h1).1 hi)
        unfold wpOp at h2 ⊢
        rw [op_left h1]
        have hsome : l.toArray[i]? = some l[i] := by simp
        rw [hsome] at h2 ⊢
        simp only at h2 ⊢
        have hg := (lastB_op hz (i := i) (o := l[i]) (by simp)).1
        rw [if_pos (by unfold Region.wanted; rw [hg])] at h2 ⊢
        refine h2.imp (fun h3 => ?_) (fun h3 => ⟨h3.1, h3.2⟩)
        refine Oper.wp_mono (fun a' w' h4 => ?_) (wp_atEnd h3)
        rw [setp (by omega)]
        exact ih _ a' w' (by simpa using hs) h4
      · have e : i = l.length := by omega
        subst e
        have := (zready hs).1 hi i0 hi0l
        rw [Array.getD_eq_getD_getElem?, Array.getElem?_eq_getElem (by omega)] at this hun
        simp at this hun
        rw [this] at hun; cases hun
/-- the last operation of a drawn region by itself; a condition on the world is held till then -/
theorem region_last {id : Nat} {l m : List Oper} {oz : Oper} {Q : Exit → Act → World → Prop} {a : Act} {w : World} {S : World → Prop} (hm : P.follows .mixedOrders = true) (hl : l.getLast? = some oz) (hd : l.dropLast = m) (hz : lastB .any m oz = true) (hS : S w.drew)
    (h : S w.drew → wpAnyH P .any m.toArray (atEnd (fun a w => wpList P #[oz] Q [oz] a w) Q) S m.length (Array.replicate m.length false) a w.drew) : (Code.region id l.toArray true).wp P Q a w := by
  subst hd
  have e : l = l.dropLast ++ [oz] := by
    obtain ⟨r, rfl⟩ := List.getLast?_eq_some_iff.1 hl
    simp
  generalize l.dropLast = m at *
  subst e
  refine wp_region_any hm ?_
  have hF : ∀ a w, wpList P #[oz] Q [oz] a w → oz.wp P a w (Q .normal) Q ∨ (oz.asks P a w ∧ LetsOut Q) := fun a w h => by
    have hg := (lastB_z hz).1
    unfold wpList at h
    rw [if_pos (by unfold Region.wanted; rw [hg])] at h
    exact h
  have := wpAny_last hz hF m.length (Array.replicate m.length false) a _ (by simp) (wpAny_of_held _ _ _ _ (h hS))
  have e1 : (Array.replicate m.length false).push false = Array.replicate (m ++ [oz]).toArray.size false := by simp [Array.replicate_succ]
  rw [e1] at this
  simpa using this
end
end Go.Proofs.YtncknfhfkmmhbaaGreat
/- The table of neighbors and the lists of neighbors: the reference's side. No condition beyond those stated. -/
namespace Go.Proofs.YtncknfhfkmmhbaaGreat
open Go.RowKit

theorem bool_info : (Tryz.prog.info? 4).map (fun i => (i.zero, i.size, i.bytes)) = some (some (.bool false), 1, 1) := by kernel_rfl
/-- both ends of an edge marked -/
theorem nbB_snoc (es : List Ed) (e : Ed) (a b : Nat) : nbB (es ++ [e]) a b = (nbB es a b || ((e.1 == (a : Int) && e.2 == (b : Int)) || (e.1 == (b : Int) && e.2 == (a : Int)))) := by simp [nbB]
theorem nbB_step {es : List Ed} {k : Nat} (hk : k < es.length) {x y : Nat} (hx : (nthE es k).1 = x) (hy : (nthE es k).2 = y) (a b : Nat) :
    (if a = y ∧ b = x then true else if a = x ∧ b = y then true else nbB (es.take k) a b) = nbB (es.take (k + 1)) a b := by
  rw [List.take_succ_eq_append_getElem hk, nbB_snoc, ← nthE_get hk, hx, hy]
  by_cases h1 : a = y ∧ b = x
  · obtain ⟨rfl, rfl⟩ := h1
    simp
  · rw [if_neg h1]
    by_cases h2 : a = x ∧ b = y
    · obtain ⟨rfl, rfl⟩ := h2
      simp
    · rw [if_neg h2]
      have e1 : (((x : Int) == (a : Int)) && ((y : Int) == (b : Int))) = false := by
        simp; intro h3 h4; exact h2 ⟨by omega, by omega⟩
      have e2 : (((x : Int) == (b : Int)) && ((y : Int) == (a : Int))) = false := by
        simp; intro h3 h4; exact h1 ⟨by omega, by omega⟩
      rw [e1, e2]
      simp
section
variable {ops : Array Oper} {rest : List Oper} {o : Oper} {a : Act} {Q : Exit → Act → World → Prop}
end
/-- one truth value: where it stands, and what it is to write it over -/
theorem TBv.at_ {w : World} {B : Nat} {eo eb : TypeId} {A : Option Addr} {n c m : Nat} {vs : List Sl} {f : Nat → Nat → Bool} (h : TBv w B eo eb A n c vs m f) {a b : Nat} (ha : a < n) (hb : b < m) :
    ∃ g r k, A = some ⟨g, 0, none⟩ ∧ w.cell? ⟨g, a, none⟩ = some (.slice (some ⟨r, 0, none⟩) m k) ∧ m ≤ k ∧ k ≤ 9223372036854775807 ∧ w.cell? ⟨r, b, none⟩ = some (.bool (f a b)) ∧ w.frozen? ⟨r, b, none⟩ = false ∧ B ≤ r ∧ r < w.heap.size ∧ (∃ v, (⟨r, 0, none⟩ : Addr) = v ∧ OS w B eb 1 (some v) m k (bools m (f a))) ∧
      ∀ x, TBv (w.setCell ⟨r, b, none⟩ (.bool x)) B eo eb A n c vs m (fun p q => if p = a ∧ q = b then x else f p q) := by
  obtain ⟨g, v, h1, h2, h3, h4, h5, h6⟩ := h.get ha
  obtain ⟨r, hr, h7, h8, h9, h10⟩ := h6 b hb
  obtain ⟨e, ho⟩ := h.rows a _ h2
  rw [hr] at h3 ho
  rw [e] at ho
  exact ⟨g, r, v.2.2, h1, h3, h4, h5, h7, h8, h9, h10, ⟨_, rfl, ho⟩, fun x => h.set h2 hr b x⟩
/-- the vertices of edges are among the first n -/
def EdgesIn (n : Nat) (es : List Ed) : Prop := ∀ k, k < es.length → ∃ x y : Nat, (nthE es k).1 = x ∧ (nthE es k).2 = y ∧ x < n ∧ y < n
theorem EdgesOk.inn {n : Nat} {es : List Ed} (h : EdgesOk n es) : EdgesIn n es := fun k hk => by
  have := h.edge (nthE es k) (by rw [nthE_get hk]; exact List.getElem_mem hk)
  exact ⟨(nthE es k).1.toNat, (nthE es k).2.toNat, by omega, by omega, by omega, by omega⟩
end Go.Proofs.YtncknfhfkmmhbaaGreat
