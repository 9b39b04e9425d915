/- A region that draws its order, its last operations each one that waits for all before, but for one that may be taken first. Over any program. No condition beyond those stated. -/
import Derived.Test.YtkihflnenifcgaaGreatDoorZAM
import Derived.Test.YtkihflnenifcgaaGreatDoorZAJ
import Derived.Test.YtkihflnenifcgaaGreatDoorZAK
set_option linter.unusedVariables false
set_option linter.unusedSimpArgs false
namespace Go.Proofs.YtkihflnenifcgaaGreatDoor
open Go

section
variable {P : Program}
/-- every operation waits for earlier ones alone and has no guard; the last one waits for all others, at last -/
def lastX (X : List Nat) (md : Region.Mode) (l : List Oper) (oz : Oper) : Bool :=
  ((List.range l.length).all fun i => ((l[i]?).map fun o => o.guard.isNone && o.after.all fun e => !Region.binds md e || decide (e.on < i)).getD true) && oz.guard.isNone && ((List.range l.length).all fun i => X.contains i || (reachN md l oz 12).contains i) && oz.after.all fun e => !Region.binds md e || decide (e.on < l.length)
theorem lastX_op {X : List Nat} {md : Region.Mode} {l : List Oper} {oz : Oper} (h : lastX X md l oz = true) {i : Nat} {o : Oper} (hi : l[i]? = some o) : o.guard = none ∧ ∀ e ∈ o.after, Region.binds md e = true → e.on < i := by
  unfold lastX at h
  simp only [Bool.and_eq_true] at h
  have hl := (List.getElem?_eq_some_iff.1 hi).1
  have h1 := List.all_eq_true.1 h.1.1.1 i (List.mem_range.2 hl)
  rw [hi] at h1
  simp only [Option.map_some, Option.getD_some, Bool.and_eq_true] at h1
  refine ⟨by simpa using h1.1, fun e he hb => ?_⟩
  have := Array.all_eq_true_iff_forall_mem.1 h1.2 e he
  rw [hb] at this
  simpa using this
theorem lastX_z {X : List Nat} {md : Region.Mode} {l : List Oper} {oz : Oper} (h : lastX X md l oz = true) : oz.guard = none ∧ (∀ i, i < l.length → i ∈ X ∨ i ∈ reachN md l oz 12) ∧ ∀ e ∈ oz.after, Region.binds md e = true → e.on < l.length := by
  unfold lastX at h
  simp only [Bool.and_eq_true] at h
  refine ⟨by simpa using h.1.1.2, fun i hi => ?_, fun e he hb => ?_⟩
  · have h1 := List.all_eq_true.1 h.1.2 i (List.mem_range.2 hi)
    simpa using h1
  · have := Array.all_eq_true_iff_forall_mem.1 h.2 e he
    rw [hb] at this
    simpa using this
theorem wpAny_lastX {X : List Nat} {md : Region.Mode} {l : List Oper} {oz : Oper} {F : Act → World → Prop} {Q : Exit → Act → World → Prop} (hz : lastX X md l oz = true)
    (hF : ∀ a w, F a w → oz.wp P a w (Q .normal) Q ∨ (oz.asks P a w ∧ LetsOut Q)) : ∀ (fuel : Nat) (listed : Array Bool) (a : Act) (w : World), listed.size = l.length → Closed md l listed → (∀ i ∈ X, listed.getD i true = true) →
      wpAny P md l.toArray (atEnd F Q) fuel listed a w → wpAny P md (l ++ [oz]).toArray Q (fuel + 1) (listed.push false) a w := by
  obtain ⟨zg, zw, zl⟩ := lastX_z hz
  have small : ∀ {listed : Array Bool} {i : Nat}, listed.size = l.length → i < l.length → (i ∈ Region.ready md (l ++ [oz]).toArray (listed.push false) ↔ i ∈ Region.ready md l.toArray listed) := fun {listed i} hs hi => by
    rw [mem_ready, mem_ready, getD_push _ (by omega), op_left hi]
    refine and_congr_right fun _ => exists_congr fun o => and_congr_right fun ho => ?_
    have hon := (lastX_op hz (by simpa using ho)).2
    refine forall_congr' fun e => forall_congr' fun he => forall_congr' fun hb => ?_
    rw [getD_push _ (by have := hon e he hb; omega)]
  have dead : ∀ {listed : Array Bool}, listed.size = l.length → Region.ready md l.toArray listed = [] → ∀ i, i < l.length → listed.getD i true = true := fun {listed} hs hr i => by
    induction i using Nat.strongRecOn with
    | ind i ih =>
      intro hi
      cases hq : listed.getD i true with
      | true => rfl
      | false =>
        exfalso
        have : i ∈ Region.ready md l.toArray listed := by
          refine mem_ready.2 ⟨hq, l[i], by simp, fun e he hb => ?_⟩
          have hon := (lastX_op hz (i := i) (o := l[i]) (by simp)).2 e he hb
          have := ih e.on hon (by omega)
          rw [Array.getD_eq_getD_getElem?, Array.getElem?_eq_getElem (by omega)] at this ⊢
          simpa using this
        rw [hr] at this
        cases this
  have zready : ∀ {listed : Array Bool}, listed.size = l.length → Closed md l listed → (∀ i ∈ X, listed.getD i true = true) → (l.length ∈ Region.ready md (l ++ [oz]).toArray (listed.push false) ↔ ∀ i, i < l.length → listed.getD i true = true) := fun {listed} hs hc hX => by
    rw [mem_ready]
    constructor
    · rintro ⟨_, o, ho, h⟩ i hi
      rw [op_last] at ho
      injection ho with ho
      subst ho
      have key : ∀ e ∈ oz.after, Region.binds md e = true → listed.getD e.on true = true := fun e he hb => by
        have := h e he hb
        have hl := zl e he hb
        rw [getD_push _ (by omega)] at this
        rw [Array.getD_eq_getD_getElem?, Array.getElem?_eq_getElem (by omega)] at this ⊢
        simpa using this
      rcases zw i hi with h1 | h1
      · exact hX i h1
      · exact reach_listed hc key 12 i h1
    · intro h
      refine ⟨by simp [Array.getD_eq_getD_getElem?, ← hs], oz, op_last, fun e he hb => ?_⟩
      have hl := zl e he hb
      have := h e.on hl
      rw [getD_push _ (by omega)]
      rw [Array.getD_eq_getD_getElem?, Array.getElem?_eq_getElem (by omega)] at this ⊢
      simpa using this
  have beyond : ∀ {listed : Array Bool} {i : Nat}, i ∈ Region.ready md (l ++ [oz]).toArray (listed.push false) → i ≤ l.length := fun {listed i} h => by
    obtain ⟨_, o, ho, _⟩ := mem_ready.1 h
    have := (Array.getElem?_eq_some_iff.1 ho).1
    simp at this
    omega
  have setp : ∀ {listed : Array Bool} {i : Nat}, i < listed.size → (listed.push false).setIfInBounds i true = (listed.setIfInBounds i true).push false := fun {listed i} h => by
    apply Array.ext_getElem?
    intro k
    rw [Array.getElem?_push, Array.getElem?_setIfInBounds, Array.getElem?_setIfInBounds, Array.getElem?_push]
    simp only [Array.size_setIfInBounds, Array.size_push]
    by_cases e : i = k
    · subst e
      simp [Nat.ne_of_lt h, h, show i < listed.size + 1 from by omega]
    · rw [if_neg e, if_neg e]
  -- all others have come up
  have finish : ∀ (fuel : Nat) (listed : Array Bool) (a : Act) (w : World), listed.size = l.length → Closed md l listed → (∀ i ∈ X, listed.getD i true = true) → Region.ready md l.toArray listed = [] → F a w → wpAny P md (l ++ [oz]).toArray Q (fuel + 1) (listed.push false) a w := fun fuel listed a w hs hc hX hr hf => by
    have hall := dead hs hr
    have hzr := (zready hs hc hX).2 hall
    refine ⟨(fun h => by rw [h] at hzr; cases hzr), fun i hi => ?_⟩
    have hib := beyond hi
    rcases Nat.lt_or_ge i l.length with h1 | h1
    · have := (small hs h1).1 hi
      rw [hr] at this; cases this
    · have e : i = l.length := by omega
      subst e
      unfold wpOp
      rw [op_last]
      simp only
      rw [if_pos (by unfold Region.wanted; rw [zg])]
      refine (hF a w hf).imp (fun hq0 => Oper.wp_mono (fun a' w' hq => ?_) hq0) id
      have hnone : Region.ready md (l ++ [oz]).toArray ((listed.push false).setIfInBounds l.length true) = [] := by
        rw [List.eq_nil_iff_forall_not_mem]
        intro k hk
        obtain ⟨h2, o, ho, _⟩ := mem_ready.1 hk
        have hkl := (Array.getElem?_eq_some_iff.1 ho).1
        simp at hkl
        rcases Nat.lt_or_ge k l.length with h3 | h3
        · have := hall k h3
          rw [Array.getD_eq_getD_getElem?] at this h2
          rw [Array.getElem?_setIfInBounds_ne (by omega), Array.getElem?_push, if_neg (by omega)] at h2
          rw [this] at h2; cases h2
        · have e : k = l.length := by omega
          subst e
          rw [Array.getD_eq_getD_getElem?, Array.getElem?_setIfInBounds_self] at h2
          simp [hs] at h2
      cases fuel with
      | zero => exact ⟨hnone, hq⟩
      | succ f => exact ⟨fun _ => hq, by rw [hnone]; simp⟩
  intro fuel
  induction fuel with
  | zero => intro listed a w hs hc hX h; exact finish 0 listed a w hs hc hX h.1 h.2
  | succ f ih =>
    intro listed a w hs hc hX h
    by_cases hr : Region.ready md l.toArray listed = []
    · exact finish (f + 1) listed a w hs hc hX hr (h.1 hr)
    · obtain ⟨i0, hi0⟩ := List.exists_mem_of_ne_nil _ hr
      have hi0l : i0 < l.length := by
        obtain ⟨_, o, ho, _⟩ := mem_ready.1 hi0
        have := (Array.getElem?_eq_some_iff.1 ho).1
        simpa using this
      have hun := (mem_ready.1 hi0).1
      have hr' := (small hs hi0l).2 hi0
      refine ⟨(fun h0 => by rw [h0] at hr'; cases hr'), fun i hi => ?_⟩
      have hib := beyond hi
      rcases Nat.lt_or_ge i l.length with h1 | h1
      · have h2 := h.2 i ((small hs h1).1 hi)
        unfold wpOp at h2 ⊢
        rw [op_left h1]
        have hsome : l.toArray[i]? = some l[i] := by simp
        rw [hsome] at h2 ⊢
        simp only at h2 ⊢
        have hg := (lastX_op hz (i := i) (o := l[i]) (by simp)).1
        rw [if_pos (by unfold Region.wanted; rw [hg])] at h2 ⊢
        refine h2.imp (fun h3 => ?_) (fun h3 => ⟨h3.1, h3.2⟩)
        refine Oper.wp_mono (fun a' w' h4 => ?_) (wp_atEnd h3)
        rw [setp (by omega)]
        refine ih _ a' w' (by simpa using hs) (closed_set (by omega) hc ((small hs h1).1 hi)) (fun q hq => ?_) h4
        have hq2 := hX q hq
        rw [Array.getD_eq_getD_getElem?] at hq2 ⊢
        rw [Array.getElem?_setIfInBounds]
        split
        · first | rfl | (split <;> simp)
        · exact hq2
      · have e : i = l.length := by omega
        subst e
        have := (zready hs hc hX).1 hi i0 hi0l
        rw [Array.getD_eq_getD_getElem?, Array.getElem?_eq_getElem (by omega)] at this hun
        simp at this hun
        rw [this] at hun; cases hun
/-- each operation of the tail waits for all before it -/
def sufX (X : List Nat) (md : Region.Mode) : List Oper → List Oper → Bool
  | _, [] => true
  | l, o :: t => lastX X md l o && sufX X md (l ++ [o]) t
theorem wpAny_sufX {X : List Nat} {md : Region.Mode} {Q : Exit → Act → World → Prop} : ∀ (t l : List Oper) (fuel : Nat) (listed : Array Bool) (a : Act) (w : World), sufX X md l t = true → listed.size = l.length → Closed md l listed → (∀ i ∈ X, listed.getD i true = true) → (∀ i ∈ X, i < l.length) →
      wpAny P md l.toArray (atEnd (fun a w => wpList P #[] Q t a w) Q) fuel listed a w → ∃ listed', listed' = listed ++ Array.replicate t.length false ∧ wpAny P md (l ++ t).toArray Q (fuel + t.length) listed' a w := by
  intro t
  induction t with
  | nil =>
    intro l fuel listed a w _ _ _ _ _ h
    refine ⟨_, rfl, ?_⟩
    have e : atEnd (fun a w => wpList P #[] Q [] a w) Q = Q := by funext e a w; cases e <;> rfl
    rw [e] at h
    simpa using h
  | cons o t ih =>
    intro l fuel listed a w hz hs hc hX hXl h
    unfold sufX at hz
    rw [Bool.and_eq_true] at hz
    have hF : ∀ a w, wpList P #[] Q (o :: t) a w → o.wp P a w (atEnd (fun a w => wpList P #[] Q t a w) Q .normal) (atEnd (fun a w => wpList P #[] Q t a w) Q) ∨ (o.asks P a w ∧ LetsOut (atEnd (fun a w => wpList P #[] Q t a w) Q)) := fun a w h => by
      have hg := (lastX_z hz.1).1
      unfold wpList at h
      rw [if_pos (by unfold Region.wanted; rw [hg])] at h
      rcases h with h | ⟨h1, h2⟩
      · exact .inl (wp_toEnd h)
      · exact .inr ⟨h1, h2⟩
    have h1 := wpAny_lastX (Q := atEnd (fun a w => wpList P #[] Q t a w) Q) hz.1 hF fuel listed a w hs hc hX (by rw [atEnd_atEnd]; exact h)
    have hc1 : Closed md (l ++ [o]) (listed.push false) := fun i o' ho hi e he hb => by
      rcases Nat.lt_or_ge i l.length with hl | hl
      · rw [List.getElem?_append_left hl] at ho
        rw [getD_push _ (by omega)] at hi
        have := hc i o' ho hi e he hb
        have hlt := (lastX_op hz.1 ho).2 e he hb
        rw [getD_push _ (by omega)]
        exact this
      · have hlen := (List.getElem?_eq_some_iff.1 ho).1
        rw [List.length_append, List.length_singleton] at hlen
        have e1 : i = listed.size := by omega
        subst e1
        simp [Array.getD_eq_getD_getElem?] at hi
    have hX1 : ∀ i ∈ X, (listed.push false).getD i true = true := fun i hi => by
      have h2 := hX i hi
      have hlt : i < listed.size := by have := hXl i hi; omega
      rw [getD_push _ hlt]
      exact h2
    obtain ⟨L, hL, h2⟩ := ih (l ++ [o]) (fuel + 1) (listed.push false) a w hz.2 (by simp [hs]) hc1 hX1 (fun i hi => by have := hXl i hi; simp; omega) h1
    refine ⟨L, ?_, ?_⟩
    · rw [hL]
      apply Array.ext'
      simp [List.replicate_succ]
    · rw [List.append_assoc, List.singleton_append] at h2
      rw [List.length_cons, show fuel + (t.length + 1) = fuel + 1 + t.length from by omega]
      exact h2
/-- the last operations of a drawn region, a row of which each waits for all before but for one that is taken first -/
theorem region_sufX {id : Nat} {l m t : List Oper} {n : Nat} {Q : Exit → Act → World → Prop} {a : Act} {w : World} {S : World → Prop} {i : Nat} {oi : Oper} {v : Value} (hm : P.follows .mixedOrders = true) (h1 : l.take n = m) (h2 : l.drop n = t) (hz : sufX [i] .any m t = true) (hi : l.toArray[i]? = some oi) (hil : i < m.length)
    (hs : Region.noSelect l.toArray = true) (hf : Region.free .any l.toArray (Array.replicate l.toArray.size false) i = true) (hr : (Region.ready .any l.toArray (Array.replicate l.toArray.size false)).contains i = true) (hrm : (Region.ready .any m.toArray (Array.replicate m.length false)).contains i = true)
    (hQ : ∀ c a w, Q (.panic c) (a.put oi.dst v) w → Q (.panic c) a w) (hy : Yields P l.toArray oi v a) (hS : S w.drew)
    (h : S w.drew → wpAnyH P .any m.toArray (atEnd (fun a w => wpList P #[] Q t a w) Q) S (m.length - 1) ((Array.replicate m.length false).setIfInBounds i true) (a.put oi.dst v) w.drew) : (Code.region id l.toArray true).wp P Q a w := by
  have e : l = m ++ t := by rw [← h1, ← h2, List.take_append_drop]
  refine wp_region_any hm ?_
  have hsz : l.toArray.size = (l.toArray.size - 1) + 1 := by
    rw [e]; simp; omega
  rw [hsz]
  refine wpAny_take hi hs (by rw [← hsz]; exact hf) (by rw [← hsz]; exact hr) hQ hy ?_
  have hri : i ∈ Region.ready .any m.toArray (Array.replicate m.length false) := by simpa using hrm
  obtain ⟨L, hL, h3⟩ := wpAny_sufX (X := [i]) t m (m.length - 1) ((Array.replicate m.length false).setIfInBounds i true) _ _ hz (by simp) (closed_set (by simpa using hil) (closed_none .any m) hri) (fun q hq => by
    have : q = i := by simpa using hq
    subst this
    simp [Array.getD_eq_getD_getElem?, hil]) (fun q hq => by
    have : q = i := by simpa using hq
    subst this
    exact hil) (wpAny_of_held _ _ _ _ (h hS))
  have e1 : L = (Array.replicate l.toArray.size false).setIfInBounds i true := by
    rw [hL, e]
    apply Array.ext'
    rw [Array.toList_append, Array.toList_setIfInBounds, Array.toList_setIfInBounds, Array.toList_replicate, Array.toList_replicate, Array.toList_replicate]
    rw [List.size_toArray, List.length_append, ← List.replicate_append_replicate, List.set_append, if_pos (by simpa using hil)]
  rw [e1] at h3
  rw [← hsz]
  have e2 : l.toArray.size - 1 = m.length - 1 + t.length := by
    rw [e]; simp; omega
  rw [e2]
  have e3 : (m ++ t).toArray = l.toArray := by rw [e]
  rw [e3] at h3
  exact h3
end
end Go.Proofs.YtkihflnenifcgaaGreatDoor
/- Texts of graphs: the program's side. No condition beyond those stated. -/
namespace Go.Proofs.YtkihflnenifcgaaGreatDoor
open Go.RowKit Go.Shelf

theorem edge_take_map (es : List Ed) {k : Nat} (h : k < es.length) : (es.take k).map edgeT ++ [edgeT (nthE es k)] = (es.take (k + 1)).map edgeT := by
  rw [List.take_succ_eq_append_getElem h, List.map_append, nthE_get h]
  rfl
theorem joinS_size (ss : List ByteArray) (sep : ByteArray) : (joinS ss sep).size = (Lib.join (bts ss) sep.data.toList).length := rfl
theorem listT_size {zs : List Int} (hl : zs.length ≤ 64) (hz : ∀ k, k < zs.length → 0 ≤ nth zs k ∧ nth zs k ≤ 63) : (listT zs).size ≤ 1000 := by
  unfold listT
  split
  · decide
  · rw [joinS_size]
    have := join_size comma.data.toList 2 (bts (zs.map dcS)) (fun x hx => by
      obtain ⟨b, hb, rfl⟩ := List.mem_map.1 hx
      obtain ⟨z, hz2, rfl⟩ := List.mem_map.1 hb
      obtain ⟨k, hk, rfl⟩ := mem_nth hz2
      have := hz k (by omega)
      show ((Lib.decDigits (nth zs k).toNat).toArray).toList.length ≤ 2
      exact dc_len _ (by omega))
    have e1 : (bts (zs.map dcS)).length = zs.length := by simp [bts]
    have e2 : comma.data.toList.length = 1 := rfl
    rw [e1, e2] at this
    omega
theorem dcS_size (z : Int) (h0 : 0 ≤ z) (h1 : z < 100) : (dcS z).size ≤ 2 := dc_len z.toNat (by omega)
set_option maxRecDepth 100000 in
set_option maxHeartbeats 2000000 in
theorem graphText_any (A : Option Addr) (n c : Nat) (F : Option Addr) (m d : Nat) (cs : List Int) (es : List Ed) (w : World) (ha : RG w A n F m cs es) (hg : GraphOk cs es) :
    Calls Tryz.prog 12 #[.agg #[.slice A n c, .slice F m d]] w fun e w' => e = .returned (.string (graphT cs es)) ∧ Below w.heap.size w w' := by
  have hn : n ≤ 64 := by have := hg.clen; rwa [ha.ri.len] at this
  have hm : m ≤ 512 := by have := hg.elen; rwa [ha.re.len] at this
  have hla := ha.ri.len
  have hlb := ha.re.len
  have hb1 := below_alloc w (.cells #[.slice A n c, .slice F m d] 27)
  have B1 := Blk.new w 27 #[.slice A n c, .slice F m d]
  have HV := Lib.hid (fun (w' : World) (hb : Below w.heap.size w w') => validGraph_any A n c F m d cs es w' (ha.keep hb) (by omega) (by omega))
  have HT := Lib.hid (tB_yes hg)
  have HE := Lib.hid (fun k (hk : k < m) => (show 0 ≤ (nthE es k).1 ∧ (nthE es k).1 < 64 ∧ 0 ≤ (nthE es k).2 ∧ (nthE es k).2 < 64 by
    have := hg.edge k (by omega)
    have := hg.clen
    omega))
  have HA := Lib.hid ha
  have HL := Lib.hid (fun (w' : World) (hb : Below w.heap.size w w') => listText_any A n c cs w' (ha.ri.keep hb) hn (fun k hk => hg.col k (by omega)))
  have hsz : (Lib.join (bts (es.map edgeT)) comma.data.toList).length ≤ 140737488355328 := by
    have := join_size comma.data.toList 5 (bts (es.map edgeT)) (fun x hx => by
      obtain ⟨b, hb, rfl⟩ := List.mem_map.1 hx
      obtain ⟨e, he, rfl⟩ := List.mem_map.1 hb
      obtain ⟨k, hk, rfl⟩ := List.mem_iff_getElem.1 he
      rw [← nthE_get hk]
      have := hg.edge k hk
      have := hg.clen
      have h1 := dc_len (nthE es k).1.toNat (by omega)
      have h2 := dc_len (nthE es k).2.toNat (by omega)
      simp [edgeT, dcS, minus, ByteArray.data_append]
      omega)
    have e1 : (bts (es.map edgeT)).length = m := by simp [bts, hlb]
    have e2 : comma.data.toList.length = 1 := rfl
    rw [e1, e2] at this
    omega
  have HSZ := Lib.hid hsz
  have hlt0 := listT_size hg.clen hg.col
  have hs1 : ¬ 9223372036854775807 < (listT cs).size + 1 := by omega
  have hs2 : ¬ 9223372036854775807 < (listT cs).size + 1 + (joinS (es.map edgeT) comma).size := by rw [joinS_size]; omega
  clear hsz ha hg
  have hval := HV.out _ hb1
  rw [HT.out] at hval
  go_enter Tryz.func12, Tryz.ntmps12
  go_wp2_with (go_at_call 21; refine hval.mono ?_; rintro e w1 ⟨rfl, hb2⟩; have B1 := B1.after hb2; obtain ⟨y0, y1⟩ := B1.cells2)
  have hb12 := below_then hb1 hb2
  clear hb1 hb2 hval y0 y1
  go_loopw [3, 12] (fun r i wr => ∃ (k : Nat) (WA : Option Addr) (wc : Nat), k ≤ m ∧ i = .int .i64 k ∧ r = .slice WA k wc ∧ OS wr (w.heap.size + 1) 9 1 WA k wc (strV ((es.take k).map edgeT)) ∧ Blk wr w.heap.size 27 #[.slice A n c, .slice F m d] ∧ Below w.heap.size w wr) (fun _ i _ => m - (intOf i).toNat)
  case atStart => exact ⟨0, none, 0, Nat.zero_le _, rfl, rfl, OS.nil_ _ _ _ 1, B1, hb12⟩
  case round =>
    clear B1 hb12
    obtain ⟨k, WA, wc, hk, rfl, rfl, ho, B1, hb⟩ := hrel
    obtain ⟨x0, x1⟩ := B1.cells2
    by_cases hlt : k < m
    · obtain ⟨g, o, rfl, h1, h2, -, -⟩ := (HA.out.re.keep hb).get hlt
      have hek := HE.out k hlt
      have HST := Lib.hid (edge_take_map es (k := k) (by omega))
      have HO := Lib.hid ho
      have HB := Lib.hid hb
      have hB1 := Lib.hid B1
      clear ho hb B1
      go_wp2
      generalize hne : nthE es k = e at *
      obtain ⟨a, b⟩ := e
      simp only [] at hek
      have hb4 := below_alloc wr (.cells #[.int .i64 a, .int .i64 b] 65)
      have E4 := Blk.new wr 65 #[.int .i64 a, .int .i64 b]
      have ho4 := HO.out.below hb4
      have hbw4 := below_then HB.out hb4
      have hB4 := hB1.out.after hb4
      have hs4 : w.heap.size + 1 ≤ (wr.alloc (.cells #[.int .i64 a, .int .i64 b] 65)).heap.size := by have := hB1.out.lt; have := hb4.size; omega
      have hbk : ∀ q, blk WA = some q → w.heap.size + 1 ≤ q := fun q hq => (ho4.lt hq).1
      generalize wr.alloc (.cells #[.int .i64 a, .int .i64 b] 65) = W4 at *
      generalize wr.heap.size = ge at *
      have hdr : Below W4.heap.size W4 W4.drew := by have := below_drewn W4 1; rwa [← World.drew_is_drewN] at this
      refine region_sufX (P := Tryz.prog) (n := 9) (i := 0) (v := .slice WA k wc) (S := fun w' => w'.cell? ⟨ge, 0, none⟩ = some (.int .i64 a) ∧ w'.cell? ⟨ge, 1, none⟩ = some (.int .i64 b)) (by kernel_rfl) (by simp only [List.take_succ_cons, List.take_zero]; rfl) (by simp only [List.drop_succ_cons, List.drop_zero]; rfl) (by kernel_rfl) rfl (by decide) (by kernel_rfl) (by kernel_rfl) (by kernel_rfl) (by kernel_rfl) (fun _ _ _ h => h) (Or.inl ⟨by rfl, ?_⟩) (by simpa using ⟨E4.cell 0, E4.cell 1⟩) ?_
      · intro w5
        go_simp
      intro hS
      simp only [Act.put, List.setIfInBounds_toArray, List.set_cons_zero, List.set_cons_succ]
      have ho5 := ho4.below hdr
      have hbw5 := hbw4.trans (hdr.mono hbw4.size)
      have hB5 := hB4.after hdr
      have hs5 := Nat.le_trans hs4 hdr.size
      have hq1 : ¬ 9223372036854775807 < (dcS a).size + 1 := by have := dcS_size a hek.1 (by omega); omega
      have hq2 : ¬ 9223372036854775807 < (dcS a).size + 1 + (dcS b).size := by
        have h3 := dcS_size a hek.1 (by omega)
        have h4 := dcS_size b hek.2.2.1 (by omega)
        omega
      have hd1 := decimal_any a hek.1 (by omega)
      have hd2 := decimal_any b hek.2.2.1 (by omega)
      generalize W4.drew = W5 at *
      clear E4 ho4 hbw4 hB4 hs4 hb4 hdr
      refine wpAnyH_take (i := 1) (v := ?_) rfl (by kernel_rfl) (by kernel_rfl) (by kernel_rfl) (fun _ _ _ h => h) (Or.inl ⟨by rfl, ?_⟩) (by assumption) ?_
      rotate_left
      · (intro w hSw; (try dsimp only at hSw); go_simp; (try with_reducible rfl))
      simp only [Act.put, List.setIfInBounds_toArray, List.set_cons_zero, List.set_cons_succ]
      refine wpAnyH_take (i := 2) (v := ?_) rfl (by kernel_rfl) (by kernel_rfl) (by kernel_rfl) (fun _ _ _ h => h) (Or.inl ⟨by rfl, ?_⟩) (by assumption) ?_
      rotate_left
      · (intro w hSw; (try dsimp only at hSw); go_simp; (try with_reducible rfl))
      simp only [Act.put, List.setIfInBounds_toArray, List.set_cons_zero, List.set_cons_succ]
      refine wpAnyH_take (i := 5) (v := ?_) rfl (by kernel_rfl) (by kernel_rfl) (by kernel_rfl) (fun _ _ _ h => h) (Or.inl ⟨by rfl, ?_⟩) (by assumption) ?_
      rotate_left
      · (intro w hSw; (try dsimp only at hSw); go_simp; (try with_reducible rfl))
      simp only [Act.put, List.setIfInBounds_toArray, List.set_cons_zero, List.set_cons_succ]
      refine wpAnyH_take (i := 6) (v := ?_) rfl (by kernel_rfl) (by kernel_rfl) (by kernel_rfl) (fun _ _ _ h => h) (Or.inl ⟨by rfl, ?_⟩) (by assumption) ?_
      rotate_left
      · (intro w hSw; (try dsimp only at hSw); go_simp; (try with_reducible rfl))
      simp only [Act.put, List.setIfInBounds_toArray, List.set_cons_zero, List.set_cons_succ]
      simp only [List.getElem_toArray, List.getElem_cons_succ, List.getElem_cons_zero]
      refine wpAnyH_ready (rs := [3]) (by kernel_rfl) (by simp) ?_
      refine AllReadyH.cons rfl (fun K hK => ?_) AllReadyH.nil
      go_simp
      refine (hd1 _).mono ?_
      rintro e w6 ⟨rfl, rfl⟩
      dsimp only
      refine hK.out _ _ hS (fun hS2 => ?_)
      clear hK K
      refine wpAnyH_take (i := 4) (v := ?_) rfl (by kernel_rfl) (by kernel_rfl) (by kernel_rfl) (fun _ _ _ h => h) (Or.inl ⟨by rfl, ?_⟩) (by assumption) ?_
      rotate_left
      · (intro w hSw; (try dsimp only at hSw); go_simp; (try with_reducible rfl))
      simp only [Act.put, List.setIfInBounds_toArray, List.set_cons_zero, List.set_cons_succ]
      simp only [List.getElem_toArray, List.getElem_cons_succ, List.getElem_cons_zero, Act.put, List.setIfInBounds_toArray, List.set_cons_zero, List.set_cons_succ]
      refine wpAnyH_ready (rs := [7]) (by kernel_rfl) (by simp) ?_
      refine AllReadyH.cons rfl (fun K hK => ?_) AllReadyH.nil
      go_simp
      refine (hd2 _).mono ?_
      rintro e w7 ⟨rfl, rfl⟩
      dsimp only
      refine hK.out _ _ hS2 (fun hS3 => ?_)
      clear hK K
      refine wpAnyH_take (i := 8) (v := ?_) rfl (by kernel_rfl) (by kernel_rfl) (by kernel_rfl) (fun _ _ _ h => h) (Or.inl ⟨by rfl, ?_⟩) (by assumption) ?_
      rotate_left
      · (intro w hSw; (try dsimp only at hSw); go_simp; (try with_reducible rfl))
      simp only [Act.put, List.setIfInBounds_toArray, List.set_cons_zero, List.set_cons_succ]
      simp only [List.getElem_toArray, List.getElem_cons_succ, List.getElem_cons_zero, Act.put, List.setIfInBounds_toArray, List.set_cons_zero, List.set_cons_succ]
      refine wpAnyH_done (by kernel_rfl) ?_ _
      dsimp only [atEnd]
      go_wp2_with (at_builtin; refine app_str _ rfl (.tmp 16) (.tmp 25) rfl (w.heap.size + 1) WA k wc _ rfl ho5 (edgeT (a, b)) w7.heap.size rfl rfl (by omega) hs5 ?_; intro A8 c8 w8 ho8 hg8; have hb8 := below_own hbw5 hg8 hbw5.size (fun q hq => Nat.le_of_succ_le (hbk q hq)); have hB8 := hB5.mid (Mid.grown (B := w.heap.size + 1) (D := w7.heap.size) hg8 (fun q hq => ⟨hbk q hq, (ho5.lt hq).2⟩)) (.inl (Nat.lt_succ_self _)))
      go_roundw
      case rel => exact ⟨k + 1, A8, c8, by omega, by go_num, rfl, HST.out ▸ ho8, hB8, hb8⟩
      case measure => simp [intOf]; omega
    · obtain rfl : k = m := by omega
      rw [List.take_of_length_le (by omega)] at ho
      have hlt2 := HL.out _ hb
      have HJ := Lib.hid (fun (w' : World) (hb : Below wr.heap.size wr w') => join_any (w.heap.size + 1) WA k wc (es.map edgeT) comma w' (ho.below hb) (by omega) HSZ.out)
      have HB := Lib.hid hb
      clear ho hb
      go_wp2_with (first | (go_at_call 29; refine hlt2.mono ?_; rintro e w5 ⟨rfl, hb5⟩; have hj := HJ.out _ hb5) | (go_at_call 30; refine hj.mono ?_; rintro e w6 ⟨rfl, hb6⟩; have hw6 := HB.out.trans ((hb5.trans (hb6.mono hb5.size)).mono HB.out.size)))
      go_ret
      exact ⟨rfl, hw6⟩
end Go.Proofs.YtkihflnenifcgaaGreatDoor
