/- The first row whose number in a column is not 0: the program's own closure. No condition beyond those stated. -/
import Derived.Test.YtdkbcjdimhgmnaaGreatSHP
import Derived.Test.YtdkbcjdimhgmnaaGreatSJG
import Derived.Deep.RegionLaw
set_option linter.unusedVariables false
set_option linter.unusedSimpArgs false
namespace Go.Proofs.YtdkbcjdimhgmnaaGreat
open Go.RowKit
def AskRn (g : Nat) (lb : Array Value) (p : List Int → Bool) (w : World) (m : Nat) : Prop :=
  ∀ (A : Option Addr) (c : Nat) (z : List Int) (W : World), Below w.heap.size w W → RI W A m z → m ≤ c → c ≤ 9223372036854775807 → Calls Tryz.prog g (#[.slice A m c] ++ lb) W (RetB W (p z))
def FirstIx (w : World) (p : List Int → Bool) (zs : List (List Int)) (e : Ending) (w' : World) : Prop :=
  ∃ r : Int, e = .returned (.int .i64 r) ∧ Below w.heap.size w w' ∧ Hid ((r = -1 ∧ ∀ j, j < zs.length → p (row zs j) = false) ∨ ∃ i : Nat, r = i ∧ i < zs.length ∧ p (row zs i) = true ∧ ∀ j, j < i → p (row zs j) = false)
set_option maxHeartbeats 1000000 in
theorem indexFuncN (g : Nat) (lb : Array Value) (eg : ∀ args w, (callFunc g args).run Tryz.prog w = .ok (.enter g args) w) (p : List Int → Bool) (A : Option Addr) (n c m : Nat) (zs : List (List Int)) (w : World) (ha : RR w A n zs) (hn : n ≤ 9223372036854775807) (hl : ∀ i, i < zs.length → (row zs i).length = m) (hp : AskRn g lb p w m) :
    Calls Tryz.prog 137 #[.slice A n c, .func (.func g) #[] lb] w (FirstIx w p zs) := by
  have hla := Lib.hid ha.len
  have HM := Lib.hid hl
  clear hl
  go_enter Tryz.func137, Tryz.ntmps137
  go_wp2
  go_loopw [5, 8] (fun _ i wr => ∃ k : Nat, k ≤ n ∧ i = .int .i64 k ∧ Below w.heap.size w wr ∧ ∀ j, j < k → p (row zs j) = false) (fun _ i _ => n - (intOf i).toNat)
  case atStart => exact ⟨0, Nat.zero_le _, rfl, Below.refl _ _, fun j h => absurd h (by omega)⟩
  case round =>
    obtain ⟨k, hk, rfl, hb, hnone⟩ := hrel
    have HN := Lib.hid hnone
    clear hnone
    by_cases hlt : k < n
    · obtain ⟨a, A1, n1, c1, rfl, hca, hn1, hc1, ha1⟩ := (ha.keep hb).get hlt
      obtain rfl : m = n1 := by rw [← ha1.len, HM.out k (by rw [hla.out]; exact hlt)]
      have hcall := hp A1 c1 (row zs k)
      cases hq : p (row zs k) with
      | true =>
        rw [hq] at hcall
        have H := Lib.hid hq
        clear hq
        go_wp2_with (go_at_fn g; refine (hcall _ hb ha1 hn1 hc1).mono ?_; rintro e w1 ⟨rfl, hb1⟩)
        go_ret
        exact ⟨k, rfl, hb.trans (hb1.mono hb.size), Lib.hid (.inr ⟨k, rfl, by rw [hla.out]; exact hlt, H.out, HN.out⟩)⟩
      | false =>
        rw [hq] at hcall
        have H := Lib.hid (show ∀ j, j < k + 1 → p (row zs j) = false from fun j hj => by
          by_cases e : j = k
          · rw [e]; exact hq
          · exact HN.out j (by omega))
        clear hq
        go_wp2_with (go_at_fn g; refine (hcall _ hb ha1 hn1 hc1).mono ?_; rintro e w1 ⟨rfl, hb1⟩)
        go_roundw
        case rel => exact ⟨k + 1, by omega, by go_num, hb.trans (hb1.mono hb.size), H.out⟩
        case measure => simp [intOf]; omega
    · obtain rfl : k = n := by omega
      go_wp2
      go_ret
      exact ⟨-1, rfl, hb, Lib.hid (.inl ⟨rfl, fun j hj => HN.out j (by rw [hla.out] at hj; exact hj)⟩)⟩
theorem reduce1_any (gc cc : Nat) (A : Option Addr) (n c : Nat) (z : List Int) (w : World) (ha : RI w A n z) (hc : cc < n) (hx : w.cell? ⟨gc, 0, none⟩ = some (.int .i64 cc)) :
    Calls Tryz.prog 157 #[.slice A n c, .pointer (some ⟨gc, 0, none⟩)] w (RetB w (nth z cc != 0)) := by
  obtain ⟨ad, rfl, hv, -⟩ := ha.get hc
  have hb := below_drewn w 1
  generalize nth z cc = v at *
  go_enter Tryz.func157, Tryz.ntmps157
  go_wp2
  go_ret
  exact ⟨rfl, Below.refl _ _⟩
def swp (i j t : Nat) : Nat := if t = j then i else if t = i then j else t
theorem swp_inj {i j a b : Nat} (h : swp i j a = swp i j b) : a = b := by
  unfold swp at h
  split at h <;> split at h <;> (try split at h) <;> (try split at h) <;> omega
theorem swp_get {α : Type} {l : List α} {i j : Nat} {a b : α} (hi : l[i]? = some a) (hj : l[j]? = some b) (t : Nat) : ((l.set i b).set j a)[t]? = l[swp i j t]? := by
  have h1 := (List.getElem?_eq_some_iff.1 hi).1
  have h2 := (List.getElem?_eq_some_iff.1 hj).1
  rw [List.getElem?_set, List.getElem?_set, List.length_set]
  unfold swp
  by_cases e1 : t = j
  · subst e1
    rw [if_pos rfl, if_pos h2, if_pos rfl, hi]
  · rw [if_neg (fun h => e1 h.symm), if_neg e1]
    by_cases e2 : t = i
    · subst e2
      rw [if_pos rfl, if_pos h1, if_pos rfl, hj]
    · rw [if_neg (fun h => e2 h.symm), if_neg e2]
theorem ORv.swap {w : World} {B : Nat} {e2 e1 : TypeId} {g n c : Nat} {vs : List Sl} {zss : List (List Int)} (h : ORv w B e2 e1 (some ⟨g, 0, none⟩) n c vs zss) {i j : Nat} {vi vj : Sl} (hi : vs[i]? = some vi) (hj : vs[j]? = some vj) :
    ORv ((w.setCell ⟨g, i, none⟩ (.slice vj.1 vj.2.1 vj.2.2)).setCell ⟨g, j, none⟩ (.slice vi.1 vi.2.1 vi.2.2)) B e2 e1 (some ⟨g, 0, none⟩) n c ((vs.set i vj).set j vi) ((zss.set i (row zss j)).set j (row zss i)) := by
  have k1 := (List.getElem?_eq_some_iff.1 hi).1
  have k2 := (List.getElem?_eq_some_iff.1 hj).1
  have z1 : zss[i]? = some (row zss i) := by rw [row_get (by rw [← h.len]; exact k1)]; exact List.getElem?_eq_getElem _
  have z2 : zss[j]? = some (row zss j) := by rw [row_get (by rw [← h.len]; exact k2)]; exact List.getElem?_eq_getElem _
  refine ⟨?_, by simp [h.len], fun t u y hu hy => ?_, fun a b u x hab hu hx => ?_, h.ne⟩
  · rw [List.map_set, List.map_set]
    exact (h.os.set i (slv vj)).set j (slv vi)
  · rw [swp_get hi hj] at hu
    rw [swp_get z1 z2] at hy
    have hr := h.rows _ u y hu hy
    have hne : blk u.1 ≠ some g := by
      rcases h.outer_row hu with e | e
      · rw [e]; simp
      · exact e
    exact ⟨(hr.os.setFar (p := ⟨g, i, none⟩) hne _).setFar (p := ⟨g, j, none⟩) hne _, hr.all⟩
  · rw [swp_get hi hj] at hu hx
    exact h.sep _ _ u x (fun e => hab (swp_inj e)) hu hx
theorem swap_lead {R : List (List Int)} {top at_ : Nat} (x y z : List Int) (h : top ≠ at_) : ((R.set top x).set at_ y).set top z = (R.set at_ y).set top z := by
  rw [List.set_comm x y h, List.set_set]
def SepV (vs : List Sl) (P : Option Addr) : Prop := ∀ (j : Nat) (v : Sl), vs[j]? = some v → blk v.1 = none ∨ blk v.1 ≠ blk P
theorem sep_symm {a b : Option Nat} (h : a = none ∨ a ≠ b) : b = none ∨ b ≠ a := by
  rcases h with h | h
  · by_cases e : b = none
    · exact .inl e
    · exact .inr (by rw [h]; exact e)
  · exact .inr h.symm
theorem Blk.apart {w : World} {g : Nat} {T : TypeId} {cs : Array Value} {B : Nat} {e : TypeId} {size : Nat} {A : Option Addr} {n c : Nat} {xs : List Value} (h : Blk w g T cs) (ho : OS w B e size A n c xs) (hne : T ≠ e) : some g ≠ blk A := by
  rcases ho.cases with ⟨rfl, _⟩ | ⟨g', cur, rfl, _, hg, _⟩
  · simp [blk]
  · intro e'
    have : g = g' := by simpa [blk] using e'
    subst this
    rw [show w.heap[g]? = _ from h] at hg
    injection hg with hg
    injection hg with _ ht
    exact hne ht
structure RSt (wt wr : World) (g0 : Nat) (tv : Array Value) (gO r oc : Nat) (vs : List Sl) (R : List (List Int)) (P : Option Addr) (np pc : Nat) (PV : List Int) (gc : Nat) (cc : Int) : Prop where
  ob : ORv wr wt.heap.size 22 2 (some ⟨gO, 0, none⟩) r oc vs R
  pv : OI wr wt.heap.size 2 P np pc PV
  sep : SepV vs P
  c : Blk wr gc 3 #[.int .i64 cc]
  hc : wt.heap.size ≤ gc
  t : Blk wr g0 146 tv
  b : Below wt.heap.size wt wr
section
variable {wt wr w' : World} {g0 : Nat} {tv : Array Value} {gO r oc : Nat} {vs : List Sl} {R : List (List Int)} {P : Option Addr} {np pc : Nat} {PV : List Int} {gc : Nat} {cc : Int}
theorem RSt.below (h : RSt wt wr g0 tv gO r oc vs R P np pc PV gc cc) (hb : Below wr.heap.size wr w') : RSt wt w' g0 tv gO r oc vs R P np pc PV gc cc :=
  ⟨h.ob.below hb, h.pv.below hb, h.sep, h.c.after hb, h.hc, h.t.after hb, h.b.trans (hb.mono h.b.size)⟩
theorem RSt.wrote (h : RSt wt wr g0 tv gO r oc vs R P np pc PV gc cc) {j : Nat} {v : Sl} {z : List Int} (hv : vs[j]? = some v) (hg : wr.grownBy w' (blk v.1)) (ho : OI w' wt.heap.size 2 v.1 v.2.1 v.2.2 z) : RSt wt w' g0 tv gO r oc vs (R.set j z) P np pc PV gc cc := by
  have hj : j < R.length := by rw [← h.ob.len]; exact (List.getElem?_eq_some_iff.1 hv).1
  have hr := h.ob.rows j v _ hv (List.getElem?_eq_getElem hj)
  exact ⟨h.ob.wrote hv hg ho, h.pv.kept hg (sep_symm (h.sep j v hv)), h.sep, h.c.grown hg (h.c.apart hr.os (by decide)), h.hc, h.t.grown hg (h.t.apart hr.os (by decide)), below_own h.b hg h.b.size (fun b hb => (hr.os.lt hb).1)⟩
theorem RSt.swap (h : RSt wt wr g0 tv gO r oc vs R P np pc PV gc cc) {i j : Nat} {vi vj : Sl} (hi : vs[i]? = some vi) (hj : vs[j]? = some vj) :
    RSt wt ((wr.setCell ⟨gO, i, none⟩ (.slice vj.1 vj.2.1 vj.2.2)).setCell ⟨gO, j, none⟩ (.slice vi.1 vi.2.1 vi.2.2)) g0 tv gO r oc ((vs.set i vj).set j vi) ((R.set i (row R j)).set j (row R i)) P np pc PV gc cc := by
  have hg : wr.grownBy ((wr.setCell ⟨gO, i, none⟩ (.slice vj.1 vj.2.1 vj.2.2)).setCell ⟨gO, j, none⟩ (.slice vi.1 vi.2.1 vi.2.2)) (blk (some ⟨gO, 0, none⟩)) := grown_set.trans grown_set
  refine ⟨h.ob.swap hi hj, h.pv.kept hg (OS.typed h.pv.os h.ob.os (by decide)), fun t u hu => ?_, h.c.grown hg (h.c.apart h.ob.os (by decide)), h.hc, h.t.grown hg (h.t.apart h.ob.os (by decide)), below_own h.b hg h.b.size (fun b hb => (h.ob.os.lt hb).1)⟩
  rw [swp_get hi hj] at hu
  exact h.sep _ u hu
theorem RSt.more (h : RSt wt wr g0 tv gO r oc vs R P np pc PV gc cc) {P' : Option Addr} {np' pc' : Nat} {PV' : List Int} (hg : wr.grownBy w' (blk P)) (ho : OI w' wt.heap.size 2 P' np' pc' PV') (hf : blk P' = blk P ∨ ∃ q, blk P' = some q ∧ wr.heap.size ≤ q) : RSt wt w' g0 tv gO r oc vs R P' np' pc' PV' gc cc := by
  refine ⟨h.ob.kept hg (OS.typed h.ob.os h.pv.os (by decide)) h.sep, ho, fun j v hv => ?_, h.c.grown hg (h.c.apart h.pv.os (by decide)), h.hc, h.t.grown hg (h.t.apart h.pv.os (by decide)), below_own h.b hg h.b.size (fun b hb => (h.pv.os.lt hb).1)⟩
  rcases hf with e | ⟨q, e, hq⟩
  · rw [e]; exact h.sep j v hv
  · cases hb : blk v.1 with
    | none => exact .inl rfl
    | some b =>
      refine .inr fun e' => ?_
      rw [e] at e'
      have hj : j < R.length := by rw [← h.ob.len]; exact (List.getElem?_eq_some_iff.1 hv).1
      have := ((h.ob.rows j v _ hv (List.getElem?_eq_getElem hj)).os.lt hb).2
      injection e' with e'
      omega
theorem RSt.fresh (h : RSt wt wr g0 tv gO r oc vs R P np pc PV gc cc) (x : Int) : RSt wt (wr.alloc (.cells #[.int .i64 x] 3)) g0 tv gO r oc vs R P np pc PV wr.heap.size x := by
  have hb := below_alloc wr (.cells #[.int .i64 x] 3)
  have h2 := h.below hb
  exact ⟨h2.ob, h2.pv, h2.sep, Blk.new _ _ _, h.b.size, h2.t, h2.b⟩
end
end Go.Proofs.YtdkbcjdimhgmnaaGreat
namespace Go.Proofs.YtdkbcjdimhgmnaaGreat
open Go
section
variable {P : Program}
def waitsN (md : Region.Mode) (o : Oper) : List Nat := (o.after.toList.filter fun e => Region.binds md e).map fun e => e.on
def growN (md : Region.Mode) (l : List Oper) (s : List Nat) : List Nat := (s ++ s.flatMap fun j => ((l[j]?).map (waitsN md)).getD []).eraseDups
def reachN (md : Region.Mode) (l : List Oper) (oz : Oper) : Nat → List Nat
  | 0 => waitsN md oz
  | n + 1 => growN md l (reachN md l oz n)
def lastD (md : Region.Mode) (l : List Oper) (oz : Oper) : Bool :=
  ((List.range l.length).all fun i => ((l[i]?).map fun o => o.guard.isNone && o.after.all fun e => decide (e.on < i)).getD true) && oz.guard.isNone && ((List.range l.length).all fun i => (reachN md l oz 12).contains i) && oz.after.all fun e => decide (e.on < l.length)
theorem lastD_op {md : Region.Mode} {l : List Oper} {oz : Oper} (h : lastD md l oz = true) {i : Nat} {o : Oper} (hi : l[i]? = some o) : o.guard = none ∧ ∀ e ∈ o.after, e.on < i := by
  unfold lastD at h
  simp only [Bool.and_eq_true] at h
  have hl := (List.getElem?_eq_some_iff.1 hi).1
  have h1 := List.all_eq_true.1 h.1.1.1 i (List.mem_range.2 hl)
  rw [hi] at h1
  simp only [Option.map_some, Option.getD_some, Bool.and_eq_true] at h1
  refine ⟨by simpa using h1.1, fun e he => ?_⟩
  have := Array.all_eq_true_iff_forall_mem.1 h1.2 e he
  simpa using this
theorem mem_waitsN {md : Region.Mode} {o : Oper} {i : Nat} : i ∈ waitsN md o ↔ ∃ e ∈ o.after, Region.binds md e = true ∧ e.on = i := by
  unfold waitsN
  simp only [List.mem_map, List.mem_filter, Array.mem_toList_iff]
  constructor
  · rintro ⟨e, ⟨h1, h2⟩, h3⟩; exact ⟨e, h1, h2, h3⟩
  · rintro ⟨e, h1, h2, h3⟩; exact ⟨e, ⟨h1, h2⟩, h3⟩
theorem lastD_z {md : Region.Mode} {l : List Oper} {oz : Oper} (h : lastD md l oz = true) : oz.guard = none ∧ (∀ i, i < l.length → i ∈ reachN md l oz 12) ∧ ∀ e ∈ oz.after, e.on < l.length := by
  unfold lastD at h
  simp only [Bool.and_eq_true] at h
  refine ⟨by simpa using h.1.1.2, fun i hi => ?_, fun e he => ?_⟩
  · have h1 := List.all_eq_true.1 h.1.2 i (List.mem_range.2 hi)
    simpa using h1
  · have := Array.all_eq_true_iff_forall_mem.1 h.2 e he
    simpa using this
theorem reach_listed {md : Region.Mode} {l : List Oper} {oz : Oper} {listed : Array Bool} (hc : Closed md l listed) (key : ∀ e ∈ oz.after, Region.binds md e = true → listed.getD e.on true = true) : ∀ n i, i ∈ reachN md l oz n → listed.getD i true = true := by
  intro n
  induction n with
  | zero =>
    intro i hi
    obtain ⟨e, he, hb, rfl⟩ := mem_waitsN.1 hi
    exact key e he hb
  | succ n ih =>
    intro i hi
    unfold reachN growN at hi
    rw [List.mem_eraseDups, List.mem_append, List.mem_flatMap] at hi
    rcases hi with hi | ⟨j, hj, hi⟩
    · exact ih i hi
    · cases ho : l[j]? with
      | none => rw [ho] at hi; simp at hi
      | some o =>
        rw [ho] at hi
        obtain ⟨e, he, hb, rfl⟩ := mem_waitsN.1 (by simpa using hi)
        exact hc j o ho (ih j hj) e he hb
theorem wpAny_lastD {md : Region.Mode} {l : List Oper} {oz : Oper} {F : Act → World → Prop} {Q : Exit → Act → World → Prop} (hz : lastD md l oz = true)
    (hF : ∀ a w, F a w → oz.wp P a w (Q .normal) Q ∨ (oz.asks P a w ∧ LetsOut Q)) : ∀ (fuel : Nat) (listed : Array Bool) (a : Act) (w : World), listed.size = l.length → Closed md l listed →
      wpAny P md l.toArray (atEnd F Q) fuel listed a w → wpAny P md (l ++ [oz]).toArray Q (fuel + 1) (listed.push false) a w := by
  obtain ⟨zg, zw, zl⟩ := lastD_z hz
  have small : ∀ {listed : Array Bool} {i : Nat}, listed.size = l.length → i < l.length → (i ∈ Region.ready md (l ++ [oz]).toArray (listed.push false) ↔ i ∈ Region.ready md l.toArray listed) := fun {listed i} hs hi => by
    rw [mem_ready, mem_ready, getD_push _ (by omega), op_left hi]
    refine and_congr_right fun _ => exists_congr fun o => and_congr_right fun ho => ?_
    have hon := (lastD_op hz (by simpa using ho)).2
    refine forall_congr' fun e => forall_congr' fun he => ?_
    rw [getD_push _ (by have := hon e he; omega)]
  have dead : ∀ {listed : Array Bool}, listed.size = l.length → Region.ready md l.toArray listed = [] → ∀ i, i < l.length → listed.getD i true = true := fun {listed} hs hr i => by
    induction i using Nat.strongRecOn with
    | ind i ih =>
      intro hi
      cases hq : listed.getD i true with
      | true => rfl
      | false =>
        exfalso
        have : i ∈ Region.ready md l.toArray listed := by
          refine mem_ready.2 ⟨hq, l[i], by simp, fun e he _ => ?_⟩
          have hon := (lastD_op hz (i := i) (o := l[i]) (by simp)).2 e he
          have := ih e.on hon (by omega)
          rw [Array.getD_eq_getD_getElem?, Array.getElem?_eq_getElem (by omega)] at this ⊢
          simpa using this
        rw [hr] at this
        cases this
  have zready : ∀ {listed : Array Bool}, listed.size = l.length → Closed md l listed → (l.length ∈ Region.ready md (l ++ [oz]).toArray (listed.push false) ↔ ∀ i, i < l.length → listed.getD i true = true) := fun {listed} hs hc => by
    rw [mem_ready]
    constructor
    · rintro ⟨_, o, ho, h⟩ i hi
      rw [op_last] at ho
      injection ho with ho
      subst ho
      have key : ∀ e ∈ oz.after, Region.binds md e = true → listed.getD e.on true = true := fun e he hb => by
        have := h e he hb
        have hl := zl e he
        rw [getD_push _ (by omega)] at this
        rw [Array.getD_eq_getD_getElem?, Array.getElem?_eq_getElem (by omega)] at this ⊢
        simpa using this
      exact reach_listed hc key 12 i (zw i hi)
    · intro h
      refine ⟨by simp [Array.getD_eq_getD_getElem?, ← hs], oz, op_last, fun e he hb => ?_⟩
      have hl := zl e he
      have := h e.on hl
      rw [getD_push _ (by omega)]
      rw [Array.getD_eq_getD_getElem?, Array.getElem?_eq_getElem (by omega)] at this ⊢
      simpa using this
  have beyond : ∀ {listed : Array Bool} {i : Nat}, i ∈ Region.ready md (l ++ [oz]).toArray (listed.push false) → i ≤ l.length := fun {listed i} h => by
    obtain ⟨_, o, ho, _⟩ := mem_ready.1 h
    have := (Array.getElem?_eq_some_iff.1 ho).1
    simp at this
    omega
  have setp : ∀ {listed : Array Bool} {i : Nat}, i < listed.size → (listed.push false).setIfInBounds i true = (listed.setIfInBounds i true).push false := fun {listed i} h => by
    apply Array.ext_getElem?
    intro k
    rw [Array.getElem?_push, Array.getElem?_setIfInBounds, Array.getElem?_setIfInBounds, Array.getElem?_push]
    simp only [Array.size_setIfInBounds, Array.size_push]
    by_cases e : i = k
    · subst e
      simp [Nat.ne_of_lt h, h, show i < listed.size + 1 from by omega]
    · rw [if_neg e, if_neg e]
  -- all others have come up
  have finish : ∀ (fuel : Nat) (listed : Array Bool) (a : Act) (w : World), listed.size = l.length → Closed md l listed → Region.ready md l.toArray listed = [] → F a w → wpAny P md (l ++ [oz]).toArray Q (fuel + 1) (listed.push false) a w := fun fuel listed a w hs hc hr hf => by
    have hall := dead hs hr
    have hzr := (zready hs hc).2 hall
    refine ⟨(fun h => by rw [h] at hzr; cases hzr), fun i hi => ?_⟩
    have hib := beyond hi
    rcases Nat.lt_or_ge i l.length with h1 | h1
    · have := (small hs h1).1 hi
      rw [hr] at this; cases this
    · have e : i = l.length := by omega
      subst e
      unfold wpOp
      rw [op_last]
      simp only
      rw [if_pos (by unfold Region.wanted; rw [zg])]
      refine (hF a w hf).imp (fun hq0 => Oper.wp_mono (fun a' w' hq => ?_) hq0) id
      have hnone : Region.ready md (l ++ [oz]).toArray ((listed.push false).setIfInBounds l.length true) = [] := by
        rw [List.eq_nil_iff_forall_not_mem]
        intro k hk
        obtain ⟨h2, o, ho, _⟩ := mem_ready.1 hk
        have hkl := (Array.getElem?_eq_some_iff.1 ho).1
        simp at hkl
        rcases Nat.lt_or_ge k l.length with h3 | h3
        · have := hall k h3
          rw [Array.getD_eq_getD_getElem?] at this h2
          rw [Array.getElem?_setIfInBounds_ne (by omega), Array.getElem?_push, if_neg (by omega)] at h2
          rw [this] at h2; cases h2
        · have e : k = l.length := by omega
          subst e
          rw [Array.getD_eq_getD_getElem?, Array.getElem?_setIfInBounds_self] at h2
          simp [hs] at h2
      cases fuel with
      | zero => exact ⟨hnone, hq⟩
      | succ f => exact ⟨fun _ => hq, by rw [hnone]; simp⟩
  intro fuel
  induction fuel with
  | zero => intro listed a w hs hc h; exact finish 0 listed a w hs hc h.1 h.2
  | succ f ih =>
    intro listed a w hs hc h
    by_cases hr : Region.ready md l.toArray listed = []
    · exact finish (f + 1) listed a w hs hc hr (h.1 hr)
    · obtain ⟨i0, hi0⟩ := List.exists_mem_of_ne_nil _ hr
      have hi0l : i0 < l.length := by
        obtain ⟨_, o, ho, _⟩ := mem_ready.1 hi0
        have := (Array.getElem?_eq_some_iff.1 ho).1
        simpa using this
      have hun := (mem_ready.1 hi0).1
      have hr' := (small hs hi0l).2 hi0
      refine ⟨(fun h0 => by rw [h0] at hr'; cases hr'), fun i hi => ?_⟩
      have hib := beyond hi
      rcases Nat.lt_or_ge i l.length with h1 | h1
      · have h2 := h.2 i ((small hs h1).1 hi)
        unfold wpOp at h2 ⊢
        rw [op_left h1]
        have hsome : l.toArray[i]? = some l[i] := by simp
        rw [hsome] at h2 ⊢
        simp only at h2 ⊢
        have hg := (lastD_op hz (i := i) (o := l[i]) (by simp)).1
        rw [if_pos (by unfold Region.wanted; rw [hg])] at h2 ⊢
        refine h2.imp (fun h3 => ?_) (fun h3 => ⟨h3.1, h3.2⟩)
        refine Oper.wp_mono (fun a' w' h4 => ?_) (wp_atEnd h3)
        rw [setp (by omega)]
        refine ih _ a' w' (by simpa using hs) ?_ h4
        exact closed_set (by omega) hc ((small hs h1).1 hi)
      · have e : i = l.length := by omega
        subst e
        have := (zready hs hc).1 hi i0 hi0l
        rw [Array.getD_eq_getD_getElem?, Array.getElem?_eq_getElem (by omega)] at this hun
        simp at this hun
        rw [this] at hun; cases hun
theorem region_lastD {id : Nat} {l m : List Oper} {oz : Oper} {Q : Exit → Act → World → Prop} {a : Act} {w : World} {S : World → Prop} (hm : P.follows .mixedOrders = true) (hl : l.getLast? = some oz) (hd : l.dropLast = m) (hz : lastD .any m oz = true) (hS : S w.drew)
    (h : S w.drew → wpAnyH P .any m.toArray (atEnd (fun a w => wpList P #[oz] Q [oz] a w) Q) S m.length (Array.replicate m.length false) a w.drew) : (Code.region id l.toArray true).wp P Q a w := by
  subst hd
  have e : l = l.dropLast ++ [oz] := by
    obtain ⟨r, rfl⟩ := List.getLast?_eq_some_iff.1 hl
    simp
  generalize l.dropLast = m at *
  subst e
  refine wp_region_any hm ?_
  have hF : ∀ a w, wpList P #[oz] Q [oz] a w → oz.wp P a w (Q .normal) Q ∨ (oz.asks P a w ∧ LetsOut Q) := fun a w h => by
    have hg := (lastD_z hz).1
    unfold wpList at h
    rw [if_pos (by unfold Region.wanted; rw [hg])] at h
    exact h
  have := wpAny_lastD hz hF m.length (Array.replicate m.length false) a _ (by simp) (closed_none .any m) (wpAny_of_held _ _ _ _ (h hS))
  have e1 : (Array.replicate m.length false).push false = Array.replicate (m ++ [oz]).toArray.size false := by simp [Array.replicate_succ]
  rw [e1] at this
  simpa using this
theorem atEnd_atEnd (F G : Act → World → Prop) (Q : Exit → Act → World → Prop) : atEnd F (atEnd G Q) = atEnd F Q := by
  funext e a w
  cases e <;> rfl
theorem wp_toEnd {F : Act → World → Prop} {Q : Exit → Act → World → Prop} {o : Oper} {a : Act} {w : World} {K : Act → World → Prop} (h : o.wp P a w K Q) : o.wp P a w K (atEnd F Q) := by
  unfold Oper.wp at *
  generalize (execOp a.eval o).run P w = r at *
  cases r with
  | ok n w' =>
    cases n with
    | value u => exact h
    | skip => exact h
    | defer d => exact h
    | enter f args =>
      refine Calls.mono h fun e w'' he => ?_
      cases e with
      | returned u => exact he
      | panicked c => exact he
      | outgrown => exact he
    | _ => exact h
  | halt x w' =>
    cases x with
    | panic u => exact h
    | _ => exact h
def sufB (md : Region.Mode) : List Oper → List Oper → Bool
  | _, [] => true
  | l, o :: t => lastD md l o && sufB md (l ++ [o]) t
theorem wpAny_suf {md : Region.Mode} {Q : Exit → Act → World → Prop} : ∀ (t l : List Oper) (fuel : Nat) (listed : Array Bool) (a : Act) (w : World), sufB md l t = true → listed.size = l.length → Closed md l listed →
      wpAny P md l.toArray (atEnd (fun a w => wpList P #[] Q t a w) Q) fuel listed a w → ∃ listed', listed' = listed ++ Array.replicate t.length false ∧ wpAny P md (l ++ t).toArray Q (fuel + t.length) listed' a w := by
  intro t
  induction t with
  | nil =>
    intro l fuel listed a w _ _ _ h
    refine ⟨_, rfl, ?_⟩
    have e : atEnd (fun a w => wpList P #[] Q [] a w) Q = Q := by funext e a w; cases e <;> rfl
    rw [e] at h
    simpa using h
  | cons o t ih =>
    intro l fuel listed a w hz hs hc h
    unfold sufB at hz
    rw [Bool.and_eq_true] at hz
    have hF : ∀ a w, wpList P #[] Q (o :: t) a w → o.wp P a w (atEnd (fun a w => wpList P #[] Q t a w) Q .normal) (atEnd (fun a w => wpList P #[] Q t a w) Q) ∨ (o.asks P a w ∧ LetsOut (atEnd (fun a w => wpList P #[] Q t a w) Q)) := fun a w h => by
      have hg := (lastD_z hz.1).1
      unfold wpList at h
      rw [if_pos (by unfold Region.wanted; rw [hg])] at h
      rcases h with h | ⟨h1, h2⟩
      · exact .inl (wp_toEnd h)
      · exact .inr ⟨h1, h2⟩
    have h1 := wpAny_lastD (Q := atEnd (fun a w => wpList P #[] Q t a w) Q) hz.1 hF fuel listed a w hs hc (by rw [atEnd_atEnd]; exact h)
    have hc1 : Closed md (l ++ [o]) (listed.push false) := fun i o' ho hi e he hb => by
      rcases Nat.lt_or_ge i l.length with hl | hl
      · rw [List.getElem?_append_left hl] at ho
        rw [getD_push _ (by omega)] at hi
        have := hc i o' ho hi e he hb
        have hlt := (lastD_op hz.1 ho).2 e he
        rw [getD_push _ (by omega)]
        exact this
      · have hlen := (List.getElem?_eq_some_iff.1 ho).1
        rw [List.length_append, List.length_singleton] at hlen
        have e1 : i = listed.size := by omega
        subst e1
        simp [Array.getD_eq_getD_getElem?] at hi
    obtain ⟨L, hL, h2⟩ := ih (l ++ [o]) (fuel + 1) (listed.push false) a w hz.2 (by simp [hs]) hc1 h1
    refine ⟨L, ?_, ?_⟩
    · rw [hL]
      apply Array.ext'
      simp [List.replicate_succ]
    · rw [List.append_assoc, List.singleton_append] at h2
      rw [List.length_cons, show fuel + (t.length + 1) = fuel + 1 + t.length from by omega]
      exact h2
theorem region_suf {id : Nat} {l m t : List Oper} {n : Nat} {Q : Exit → Act → World → Prop} {a : Act} {w : World} {S : World → Prop} (hm : P.follows .mixedOrders = true) (h1 : l.take n = m) (h2 : l.drop n = t) (hz : sufB .any m t = true) (hS : S w.drew)
    (h : S w.drew → wpAnyH P .any m.toArray (atEnd (fun a w => wpList P #[] Q t a w) Q) S m.length (Array.replicate m.length false) a w.drew) : (Code.region id l.toArray true).wp P Q a w := by
  have e : l = m ++ t := by rw [← h1, ← h2, List.take_append_drop]
  subst e
  refine wp_region_any hm ?_
  obtain ⟨L, hL, h3⟩ := wpAny_suf t m m.length (Array.replicate m.length false) a _ hz (by simp) (closed_none .any m) (wpAny_of_held _ _ _ _ (h hS))
  have e1 : L = Array.replicate (m ++ t).toArray.size false := by
    rw [hL]
    apply Array.ext'
    simp
  rw [e1] at h3
  simpa using h3
end
end Go.Proofs.YtdkbcjdimhgmnaaGreat
namespace Go.Proofs.YtdkbcjdimhgmnaaGreat
open Go.RowKit
theorem cells_le_mul {rows : List (List Int)} {nn : Nat} (h : ∀ i, i < rows.length → (row rows i).length = nn) : cells rows ≤ rows.length * nn := by
  have : ∀ (L : List (List Int)), (∀ z ∈ L, z.length ≤ nn) → cells L ≤ L.length * nn := fun L => by
    induction L with
    | nil => intro _; simp [cells]
    | cons z L ih =>
      intro h
      have h1 := ih fun y hy => h y (List.mem_cons_of_mem _ hy)
      have h2 := h z (List.mem_cons_self ..)
      unfold cells at h1 ⊢
      rw [List.map_cons, List.sum_cons, List.length_cons, Nat.succ_mul]
      omega
  refine this rows fun z hz => ?_
  obtain ⟨i, hi, rfl⟩ := List.mem_iff_getElem.1 hz
  have := h i hi
  rw [row_get hi] at this
  omega
def ptrOf : Value → Addr
  | .pointer (some a) => a
  | _ => ⟨0, 0, none⟩
theorem ptrOf_mk (a : Addr) : ptrOf (.pointer (some a)) = a := rfl
def celOf (v : Value) (w : World) : Int := intOf ((w.cell? (ptrOf v)).getD (.int .i64 0))
theorem celOf_is {w : World} {a : Addr} {x : Int} (h : w.cell? a = some (.int .i64 x)) : celOf (.pointer (some a)) w = x := by
  unfold celOf
  rw [ptrOf_mk, h]
  rfl
def RetRed (w : World) (Z : List (List Int)) (e : Ending) (w' : World) : Prop :=
  ∃ A' n' c' P' np pc dd, e = .returned (.tuple #[.slice A' n' c', .slice P' np pc, .int .i64 dd]) ∧ RR w' A' n' Z ∧ Below w.heap.size w w'
theorem ret_red {wt wr : World} {g0 : Nat} {tv : Array Value} {gO r oc : Nat} {vs : List Sl} {R : List (List Int)} {P : Option Addr} {np pc : Nat} {PV : List Int} {gc : Nat} {cc : Int} (h : RSt wt wr g0 tv gO r oc vs R P np pc PV gc cc) (hn : np ≤ r) (dd : Nat) : RetRed wt (R.take np) (.returned (.tuple #[.slice (some ⟨gO, 0, none⟩) np oc, .slice P np pc, .int .i64 dd])) wr :=
  ⟨_, _, _, _, _, _, _, rfl, (OR.reads ⟨_, h.ob⟩).take_ hn, h.b⟩
theorem form_at (p : Int) (k : Nat) (f : List Int) {rows : List (List Int)} {nn cc : Nat} (h0 : (row rows 0).length = nn) (hc : cc ≤ nn) (h : cc = nn ∨ (redTo p k f rows cc).2.length = rows.length) : formR p k f rows = (redTo p k f rows cc).1.take (redTo p k f rows cc).2.length := by
  unfold formR
  rw [h0]
  rcases h with rfl | h
  · rfl
  · rw [redTo_full p k f h hc]
set_option maxRecDepth 100000 in
set_option maxHeartbeats 8000000 in
theorem reduce_any (p : Int) (k : Nat) (f : List Int) (q : Nat) (A1 A2 A3 A4 : Option Addr) (c1 c2 c3 c4 : Nat) (M : Option Addr) (r rc nn : Nat) (rows : List (List Int)) (w : World) (hq : p ^ k = (q : Int)) (hf : FldOk p k f) (ht : TabA w p k f q A1 A2 A3 A4) (hr : RR w M r rows) (hm : MatQ (p ^ k) nn rows) (hr1 : 1 ≤ r) (hr32 : r ≤ 1000) (hn32 : nn ≤ 1000) :
    Calls Tryz.prog 98 #[.agg #[.int .i64 q, .slice A1 q c1, .slice A2 q c2, .slice A3 q c3, .slice A4 q c4], .slice M r rc] w (RetRed w (formR p k f rows)) := by
  obtain ⟨p2, p61, k1, k6, hq64, hq2⟩ := hf.nums
  have HLr := Lib.hid hr.len
  have q0 : 0 < q := by rw [hq] at hq2; omega
  obtain ⟨a1, rfl⟩ := tab_some ht.add q0
  obtain ⟨a2, rfl⟩ := tab_some ht.sub q0
  obtain ⟨a3, rfl⟩ := tab_some ht.mul q0
  obtain ⟨a4, rfl, -⟩ := ht.inv.get q0
  have HT := Lib.hid ht
  have HM := Lib.hid (fun c => MatQ.red (p := p) (k := k) (by omega) hm f c)
  have HRL := Lib.hid (fun c => redTo_len p k f rows c)
  have HPV := Lib.hid (fun c => redTo_piv p k f rows c)
  have HR0 := Lib.hid (show (row rows 0).length = nn from (hm 0 (by rw [hr.len]; omega)).1)
  have hcl : cells rows ≤ 1099511627776 := by
    have h1 := cells_le_mul (fun i hi => (hm i hi).1)
    have h2 : rows.length * nn ≤ 1000 * 1000 := Nat.mul_le_mul (by rw [hr.len]; exact hr32) hn32
    omega
  rw [hq] at hq64 hq2
  have HQ := Lib.hid hq
  obtain ⟨tv, htv⟩ : ∃ tv : Array Value, tv = #[.int .i64 q, .slice (some a1) q c1, .slice (some a2) q c2, .slice (some a3) q c3, .slice (some a4) q c4] := ⟨_, rfl⟩
  have hb1 := below_alloc w (.cells #[.int .i64 q, .slice (some a1) q c1, .slice (some a2) q c2, .slice (some a3) q c3, .slice (some a4) q c4] 146)
  have X1 := Blk.new w 146 #[.int .i64 q, .slice (some a1) q c1, .slice (some a2) q c2, .slice (some a3) q c3, .slice (some a4) q c4]
  have hcp := copyLists_any M r rc rows _ (hr.keep hb1) (by omega) hcl
  have hz1 : (w.alloc (.cells #[.int .i64 q, .slice (some a1) q c1, .slice (some a2) q c2, .slice (some a3) q c3, .slice (some a4) q c4] 146)).heap.size = w.heap.size + 1 := by simp
  clear hm ht hq
  go_enter Tryz.func98, Tryz.ntmps98
  go_wp2_with (go_at_call 138; refine hcp.mono ?_; rintro e w1 ⟨O, r1, oc, rfl, ho1, hb2⟩)
  obtain rfl : r = r1 := by rw [← ho1.len, HLr.out]
  obtain ⟨vs0, hob⟩ := ho1.more (show w.heap.size ≤ _ from hb1.size)
  obtain ⟨gO, -, rfl, -, -, -, -⟩ := hob.get (k := 0) (by omega)
  have X2 := X1.after hb2
  have hw1 := hb1.trans (hb2.mono hb1.size)
  have hR0 : RSt w (w1.alloc (.cells #[.int .i64 0] 3)) w.heap.size tv gO r oc vs0 (redTo p k f rows 0).1 none 0 0 (redTo p k f rows 0).2 w1.heap.size ((0 : Nat) : Int) := by
    have h3 := below_alloc w1 (.cells #[.int .i64 0] 3)
    exact ⟨hob.below h3, OI.nil_ _ _ _, fun j v _ => by cases h : blk v.1 <;> simp [blk], Blk.new _ _ _, hw1.size, by rw [htv]; exact X2.after h3, hw1.trans (h3.mono hw1.size)⟩
  clear hob ho1 hb1 hb2 X1 X2 hcp hw1 hz1 hr
  have hm0 := celOf_is (hR0.c.cell 0)
  go_wp2
  go_loopw [8, 9, 10, 11, 12, 13, 14, 15, 16, 17] (fun pv det cp _ _ _ _ _ _ _ wr => ∃ (cc gc : Nat) (vs : List Sl) (P' : Option Addr) (np pc dd : Nat), cc ≤ nn ∧ cp = .pointer (some ⟨gc, 0, none⟩) ∧ pv = .slice P' np pc ∧ det = .int .i64 dd ∧ dd < q ∧ np < r ∧ RSt w wr w.heap.size tv gO r oc vs (redTo p k f rows cc).1 P' np pc (redTo p k f rows cc).2 gc cc) (fun _ _ cp _ _ _ _ _ _ _ wr => nn - (celOf cp wr).toNat)
  case atStart => exact ⟨0, w1.heap.size, vs0, none, 0, 0, 1, Nat.zero_le _, rfl, rfl, rfl, by omega, by omega, hR0⟩
  case round =>
    clear hR0 hm0
    obtain ⟨cc, gc, vs, P', np, pc, dd, hcc, rfl, rfl, rfl, hdd, hnr, hR⟩ := hrel
    have hnp : (redTo p k f rows cc).2.length = np := hR.pv.len
    have hrl : (redTo p k f rows cc).1.length = r := by rw [HRL.out, HLr.out]
    have hmat := HM.out cc
    have cgc : wr.cell? ⟨gc, 0, none⟩ = some (.int .i64 cc) := hR.c.cell 0
    have hcel := celOf_is cgc
    by_cases hcl : cc < nn
    · have HS1 := Lib.hid (show pivAt (redTo p k f rows cc).1 cc np = r → redTo p k f rows (cc + 1) = ((redTo p k f rows cc).1, (redTo p k f rows cc).2) from fun e => by
        rw [redTo, if_pos (.inr (by rw [hnp, e, HLr.out]))])
      have HS2 := Lib.hid (show pivAt (redTo p k f rows cc).1 cc np < r → redTo p k f rows (cc + 1) = (stepR p k f (redTo p k f rows cc).1 cc np, (redTo p k f rows cc).2 ++ [(cc : Int)]) from fun e => by
        rw [redTo, if_neg (fun h => by rcases h with h | h <;> rw [hnp, HLr.out] at h <;> omega), hnp])
      have HRC := Lib.hid hrl
      have HMT := Lib.hid hmat
      generalize (redTo p k f rows cc).1 = R at *
      generalize hPV : (redTo p k f rows cc).2 = PV at *
      clear hPV hnp hrl hmat
      obtain ⟨gO', v0, hgO, -, ch0, -, hoi0⟩ := hR.ob.get (k := 0) (by omega)
      cases hgO
      have hv0 : v0.2.1 = nn := by rw [← hoi0.len]; exact (HMT.out 0 (by rw [HRC.out]; omega)).1
      obtain ⟨y1, y2, y3⟩ := v0
      simp only at hv0 ch0
      subst hv0
      clear hoi0
      have hr0 : 0 < r := by omega
      have hoc := hR.ob.os.cap
      have hoc1 : ¬ oc = np := by omega
      have hoc2 : np ≤ r := by omega
      have eg : ∀ (args : Array Value) (w : World), (callFunc 157 args).run Tryz.prog w = .ok (.enter 157 args) w := fun _ _ => by kernel_rfl
      go_wp2
      go_quiet (fail)
      go_wp2_with fail
      have hRq := hR.below (below_drewn wr nq)
      generalize wr.drewN nq = w2 at *
      have hask : AskRn 157 #[.pointer (some ⟨gc, 0, none⟩)] (fun z => nth z cc != 0) w2 y2 := fun A c z W hb hz _ _ =>
        reduce1_any gc cc A y2 c z W hz hcl ((hRq.below hb).c.cell 0)
      have hdr : RR w2 (some ⟨gO, np, none⟩) (r - np) (R.drop np) := by
        have := (OR.reads ⟨_, hRq.ob⟩).drop_ hoc2
        rwa [Addr.add_lit, Nat.zero_add] at this
      refine (indexFuncN 157 #[.pointer (some ⟨gc, 0, none⟩)] eg (fun z => nth z cc != 0) (some ⟨gO, np, none⟩) (r - np) (oc - np) y2 (R.drop np) w2 hdr (by omega) (fun i hi => by
        rw [row_drop]
        rw [List.length_drop] at hi
        exact (HMT.out _ (by omega)).1) hask).mono ?_
      rintro e w3 ⟨ix, rfl, hb3, hix⟩
      dsimp only
      have hR3 := hRq.below hb3
      clear hR hRq hask hdr hb3 ch0 cgc
      have hwr := Lib.hid hcel
      clear hcel
      rcases hix.out with ⟨rfl, hall⟩ | ⟨u, rfl, hu1, hu2, hu3⟩
      · have HP := Lib.hid (HS1.out (pivAt_is (i := r) hoc2 (by rw [HRC.out]; exact Nat.le_refl _) (fun j h1 h2 => by
          have := hall (j - np) (by rw [List.length_drop, HRC.out]; omega)
          rw [row_drop, show np + (j - np) = j from by omega] at this
          simpa using this) (fun h => by rw [HRC.out] at h; omega)))
        have hR4 := hR3.fresh ((cc : Int) + 1)
        have cgc : w3.cell? ⟨gc, 0, none⟩ = some (.int .i64 cc) := hR3.c.cell 0
        have hm := Lib.hid (celOf_is (hR4.c.cell 0))
        clear hix hall
        go_wp2
        go_roundw
        case rel => exact ⟨cc + 1, w3.heap.size, vs, P', np, pc, 0, by omega, rfl, rfl, rfl, by omega, hnr, by rw [HP.out]; exact hR4⟩
        case measure => rw [hwr.out, hm.out]; omega
      · have hur : np + u < r := by rw [List.length_drop, HRC.out] at hu1; omega
        rw [row_drop] at hu2
        have hlne : nth (row R (np + u)) cc ≠ 0 := by simpa using hu2
        obtain ⟨ax, hax⟩ : ∃ ax, ax = np + u := ⟨_, rfl⟩
        have HP := Lib.hid (show pivAt R cc np = ax from by
          rw [hax]
          exact pivAt_is (by omega) (by rw [HRC.out]; omega) (fun j h1 h2 => by
            have := hu3 (j - np) (by omega)
            rw [row_drop, show np + (j - np) = j from by omega] at this
            simpa using this) (fun _ => hlne))
        rw [← hax] at hur hlne
        have HAX := Lib.hid hur
        clear hix hu2 hu3 hu1
        have HNE := Lib.hid hlne
        clear hlne
        obtain ⟨gO', vt, hgO, hvt, ct, ft, hot⟩ := hR3.ob.get hnr
        cases hgO
        by_cases hu : u = 0
        case' pos =>
          subst hu
          rw [Nat.add_zero] at hax
          obtain ⟨Rx, eRx⟩ : ∃ Rx, Rx = R := ⟨_, rfl⟩
          have hRx := hR3
          rw [← eRx] at hRx
          have HW := Lib.hid (show row Rx np = row R ax from by rw [eRx, hax])
          have HX := Lib.hid (show ∀ z, Rx.set np z = (R.set ax (row R np)).set np z from fun z => by rw [eRx, hax, List.set_set])
          have HXL := Lib.hid (show Rx.length = r from by rw [eRx]; exact HRC.out)
          have HXM := Lib.hid (show MatQ (p ^ k) y2 Rx from by rw [eRx]; exact HMT.out)
          clear eRx hR3 hot ct ft hvt vt hax
          generalize vs = vsx at *
          generalize w3 = wx at *
          generalize dd = ddx at *
          go_wp2
        case' neg =>
          have hu0 : 0 < u := by omega
          have hui : (0 : Int) < (u : Int) := by omega
          rw [hax] at hur
          obtain ⟨gO', va, hgO, hva, ca, fa, hoa⟩ := hR3.ob.get (k := np + u) hur
          cases hgO
          have hRs := hR3.swap hvt hva
          obtain ⟨va1, va2, va3⟩ := va
          obtain ⟨vt1, vt2, vt3⟩ := vt
          have HW := Lib.hid (show row ((R.set np (row R (np + u))).set (np + u) (row R np)) np = row R ax from by
            rw [row_setR (by rw [List.length_set, HRC.out]; exact hur), if_neg (by omega), row_setR (by rw [HRC.out]; exact hnr), if_pos rfl, hax])
          have HX := Lib.hid (show ∀ z, ((R.set np (row R (np + u))).set (np + u) (row R np)).set np z = (R.set ax (row R np)).set np z from fun z => by rw [hax]; exact swap_lead _ _ _ (by omega))
          have HXL := Lib.hid (show ((R.set np (row R (np + u))).set (np + u) (row R np)).length = r from by rw [List.length_set, List.length_set]; exact HRC.out)
          have HXM := Lib.hid (show MatQ (p ^ k) y2 ((R.set np (row R (np + u))).set (np + u) (row R np)) from (HMT.out.set (HMT.out _ (by rw [HRC.out]; exact hur))).set (HMT.out _ (by rw [HRC.out]; exact hnr)))
          clear hot hoa hR3 hax hvt hva
          go_wp2
          go_region
          clear ct ca ft fa
          have hRx := hRs.below (below_drewn _ 1)
          simp only [← World.drew_is_drewN] at hRx
          clear hRs
          generalize ((w3.setCell ⟨gO, np, none⟩ (.slice va1 va2 va3)).setCell ⟨gO, np + u, none⟩ (.slice vt1 vt2 vt3)).drew = wx at *
          generalize (R.set np (row R (np + u))).set (np + u) (row R np) = Rx at *
          generalize (vs.set np (va1, va2, va3)).set (np + u) (vt1, vt2, vt3) = vsx at *
          have x2 : wx.cell? ⟨w.heap.size, 2, none⟩ = some (.slice (some a2) q c2) := by have := hRx.t.cell 2; rw [htv] at this; exact this
          obtain ⟨bd, mc, s1, s2⟩ := tab_at (HT.out.keep hRx.b).sub q0 hdd
          rw [show a2.add 0 = a2 from by simp [Addr.add]] at s1
          obtain ⟨bb1, bb2⟩ := sumP_bd (p := p) (by omega) k (p - 1) ((0 : Nat) : Int) (dd : Int)
          rw [HQ.out] at bb2
          obtain ⟨ddx, hdx, hddx⟩ := nat_of bb1 bb2
          rw [hdx] at s2
          clear hdx bb1 bb2
          have hdd0 := hdd
          clear hdd
          have hdd := hddx
          clear hddx
          go_wp2
          clear x2 s1 s2 hdd0
        all_goals
          have hxr : np < Rx.length := by rw [HXL.out]; exact hnr
          obtain ⟨gO', vx, hgO, hvx, cx, fx, hox⟩ := hRx.ob.get hnr
          cases hgO
          obtain ⟨v1, v2, v3⟩ := vx
          have hv2 : y2 = v2 := (HXM.out np hxr).1.symm.trans hox.len
          subst hv2
          obtain ⟨gx, hgx, cl, fl, -⟩ := hox.cell (k := cc) hcl
          obtain rfl : v1 = some ⟨gx, 0, none⟩ := hgx
          obtain ⟨l1, l2⟩ := (HXM.out np hxr).2 cc (by rw [hox.len]; exact hcl)
          rw [HQ.out] at l2
          obtain ⟨ln, hln, hlq⟩ := nat_of l1 l2
          rw [hln] at cl
          have hl0 : ln ≠ 0 := fun e => by
            have := HNE.out
            rw [← HW.out, hln, e] at this
            exact this rfl
          have HLN := Lib.hid hln
          clear hln l1 l2
          have cgc : wx.cell? ⟨gc, 0, none⟩ = some (.int .i64 cc) := hRx.c.cell 0
          have x3 : wx.cell? ⟨w.heap.size, 3, none⟩ = some (.slice (some a3) q c3) := by have := hRx.t.cell 3; rw [htv] at this; exact this
          obtain ⟨bd, mc, s1, s2⟩ := tab_at (HT.out.keep hRx.b).mul hdd hlq
          obtain ⟨bb1, bb2⟩ := mulP_bd (p := p) (by omega) k f (ddx : Int) (ln : Int)
          rw [HQ.out] at bb2
          obtain ⟨dm, hdm, hdmq⟩ := nat_of bb1 bb2
          rw [hdm] at s2
          clear hdm bb1 bb2
          go_region
          go_wp2
          have hRy := hRx.below (below_drewn _ 1)
          simp only [← World.drew_is_drewN] at hRy
          clear hRx hox cx fx cl fl cgc x3 s1 s2
          generalize wx.drew = wy at *
          have HZ := Lib.hid (show leadR p k f R cc ax = mixP (row Rx np) (fun i => mulP p k f (finv p k f ln) (nth (row Rx np) i)) (row Rx np).length from by
            rw [mixP_scale, ← HLN.out, HW.out]; rfl)
          have hRl0 : RSt w wy w.heap.size tv gO r oc vsx (Rx.set np (mixP (row Rx np) (fun i => mulP p k f (finv p k f ln) (nth (row Rx np) i)) 0)) P' np pc PV gc cc := by rw [mixP_zero, set_row_self]; exact hRy
          have HRL2 := Lib.hid (show (row Rx np).length = y2 from (HXM.out np hxr).1)
          have HRV := Lib.hid (show VecQ (p ^ k) (row Rx np) from (HXM.out np hxr).2)
          obtain ⟨iv0, iv1, -⟩ := finv_ok hf (a := (ln : Int)) (by omega) (by rw [HQ.out]; omega)
          rw [HQ.out] at iv1
          obtain ⟨iv, hiv, hivq⟩ := nat_of (by omega : (0 : Int) ≤ finv p k f ln) iv1
          rw [hiv] at hRl0 HZ
          have HIV := Lib.hid hiv
          clear hiv iv0 iv1 hRy
          generalize hrx : row Rx np = rx at *
          clear hrx
          go_loopw [89] (fun i wi => ∃ j : Nat, j ≤ y2 ∧ i = .int .i64 j ∧ RSt w wi w.heap.size tv gO r oc vsx (Rx.set np (mixP rx (fun i => mulP p k f (iv : Int) (nth rx i)) j)) P' np pc PV gc cc) (fun i _ => y2 - (intOf i).toNat)
          case atStart => exact ⟨0, Nat.zero_le _, rfl, hRl0⟩
          case round =>
            clear hRl0
            obtain ⟨j, hj, rfl, hRi⟩ := hrel
            by_cases hlt : j < y2
            · obtain ⟨gO', v', hgO, hv', cx, -, hox⟩ := hRi.ob.get hnr
              cases hgO
              obtain rfl : _ = v' := Option.some.inj (hvx.symm.trans hv')
              clear hv'
              simp only at cx hox
              rw [row_set_same hxr] at hox
              obtain ⟨g', hg', cj, fj, -⟩ := hox.cell hlt
              cases hg'
              rw [mixP_nth _ _ _ (by rw [HRL2.out]; exact hlt), if_neg (by omega)] at cj
              obtain ⟨e0, e1⟩ := HRV.out j (by rw [HRL2.out]; exact hlt)
              rw [HQ.out] at e1
              obtain ⟨xn, hxn, hxq⟩ := nat_of e0 e1
              have HNW := Lib.hid (show (mixP rx (fun i => mulP p k f (iv : Int) (nth rx i)) j).set j (mulP p k f (iv : Int) (nth rx j)) = mixP rx (fun i => mulP p k f (iv : Int) (nth rx i)) (j + 1) from mixP_set rx (fun i => mulP p k f (iv : Int) (nth rx i)) (j := j) (by rw [HRL2.out]; exact hlt))
              rw [hxn] at cj HNW
              have htw := HT.out.keep hRi.b
              obtain ⟨a4', ha4, ci, -⟩ := htw.inv.get hlq
              cases ha4
              rw [invQ_nth _ _ _ hlq hl0, HIV.out] at ci
              obtain ⟨bd, mc, s1, s2⟩ := tab_at htw.mul hivq hxq
              obtain ⟨bb1, bb2⟩ := mulP_bd (p := p) (by omega) k f (iv : Int) (xn : Int)
              rw [HQ.out] at bb2
              have hi64 : I64 (mulP p k f (iv : Int) (xn : Int)) := ⟨by omega, by omega⟩
              have x3 : wr.cell? ⟨w.heap.size, 3, none⟩ = some (.slice (some a3) q c3) := by have := hRi.t.cell 3; rw [htv] at this; exact this
              have x4 : wr.cell? ⟨w.heap.size, 4, none⟩ = some (.slice (some a4) q c4) := by have := hRi.t.cell 4; rw [htv] at this; exact this
              clear bb1 bb2 e0 e1 hxn htw
              generalize mulP p k f (iv : Int) (xn : Int) = nw at *
              have hset := hox.set j hi64
              rw [HNW.out] at hset
              have hRn := hRi.wrote hvx (grown_set (w := wr) (g := gx) (p := j) (u := .int .i64 nw)) hset
              rw [List.set_set] at hRn
              have hRd := hRn.below (below_drewn _ 1)
              simp only [← World.drew_is_drewN] at hRd
              clear hset hRn hRi hox
              go_wp2
              go_region
              clear cx cj fj ci s1 s2 x3 x4
              go_wp2
              go_roundw
              case rel => exact ⟨j + 1, by omega, by go_num, hRd⟩
              case measure => simp [intOf]; omega
            · obtain rfl : y2 = j := by omega
              rw [show mixP rx (fun i => mulP p k f (iv : Int) (nth rx i)) y2 = leadR p k f R cc ax from by rw [HZ.out, HRL2.out]] at hRi
              go_wp2
              obtain ⟨ldl, ldv⟩ := MatQ.lead (p := p) (k := k) (by omega) HMT.out f cc (i := ax) (by rw [HRC.out]; exact HAX.out)
              have HLD := Lib.hid ldl
              have HLV := Lib.hid ldv
              have HSE := Lib.hid (show stepR p k f R cc np = elimTo p k f np (leadR p k f R cc ax) cc (Rx.set np (leadR p k f R cc ax)) r from by
                unfold stepR
                rw [HP.out, HX.out, HRC.out])
              have HST := Lib.hid (HS2.out (by rw [HP.out]; exact HAX.out))
              have HMB := Lib.hid (show ∀ i, i ≤ r → MatQ (p ^ k) y2 (elimTo p k f np (leadR p k f R cc ax) cc (Rx.set np (leadR p k f R cc ax)) i) from fun i hi =>
                MatQ.elim (by omega) (HXM.out.set ⟨ldl, ldv⟩) f np _ cc i (by rw [List.length_set, HXL.out]; exact hi))
              have HRB := Lib.hid (show (Rx.set np (leadR p k f R cc ax)).length = r from by rw [List.length_set, HXL.out])
              have HTOP := Lib.hid (show ∀ i, i ≤ r → row (elimTo p k f np (leadR p k f R cc ax) cc (Rx.set np (leadR p k f R cc ax)) i) np = leadR p k f R cc ax from fun i hi => by
                rw [elimTo_top p k f np _ cc _ i (by rw [List.length_set, HXL.out]; exact hi), row_set_same hxr])
              clear ldl ldv
              have hR0 : RSt w wr w.heap.size tv gO r oc vsx (elimTo p k f np (leadR p k f R cc ax) cc (Rx.set np (leadR p k f R cc ax)) 0) P' np pc PV gc cc := hRi
              clear hRi
              generalize leadR p k f R cc ax = ld at *
              generalize Rx.set np ld = R1 at *
              go_loopw [115] (fun i wi => ∃ i' : Nat, i' ≤ r ∧ i = .int .i64 i' ∧ RSt w wi w.heap.size tv gO r oc vsx (elimTo p k f np ld cc R1 i') P' np pc PV gc cc) (fun i _ => r - (intOf i).toNat)
              case atStart => exact ⟨0, Nat.zero_le _, rfl, hR0⟩
              case round =>
                clear hR0
                obtain ⟨i, hi, rfl, hRi⟩ := hrel
                by_cases hir : i < r
                · obtain ⟨gO', vi, hgO, hvi, ci, -, hoi⟩ := hRi.ob.get hir
                  cases hgO
                  obtain ⟨vi1, vi2, vi3⟩ := vi
                  by_cases hin : i = np
                  · have HE1 := Lib.hid (show elimTo p k f np ld cc R1 (i + 1) = elimTo p k f np ld cc R1 i from by rw [elimTo, if_pos hin])
                    have hin' : ((i : Int) != (np : Int)) = false := by simp [hin]
                    clear hin hoi
                    go_wp2
                    go_roundw
                    case rel => exact ⟨i + 1, by omega, by go_num, by rw [HE1.out]; exact hRi⟩
                    case measure => simp [intOf]; omega
                  · have hin' : ((i : Int) != (np : Int)) = true := by simp; omega
                    obtain ⟨rl1, rlv⟩ := HMB.out i hi i (by rw [elimTo_len, HRB.out]; exact hir)
                    have hvl : y2 = vi2 := rl1.symm.trans hoi.len
                    subst hvl
                    obtain ⟨gi, hgi, cl2, -, -⟩ := hoi.cell hcl
                    obtain rfl : vi1 = some ⟨gi, 0, none⟩ := hgi
                    obtain ⟨e0, e1⟩ := rlv cc (by rw [rl1]; exact hcl)
                    rw [HQ.out] at e1
                    obtain ⟨xn, hxn, hxq⟩ := nat_of e0 e1
                    rw [hxn] at cl2
                    have hE1 : elimTo p k f np ld cc R1 (i + 1) = (elimTo p k f np ld cc R1 i).set i (lessR p k f (row (elimTo p k f np ld cc R1 i) i) ld (nth (row (elimTo p k f np ld cc R1 i) i) cc)) := by rw [elimTo, if_neg hin]
                    rw [hxn] at hE1
                    have cgc : wr.cell? ⟨gc, 0, none⟩ = some (.int .i64 cc) := hRi.c.cell 0
                    clear hin e0 e1 hxn
                    by_cases hx0 : xn = 0
                    · subst hx0
                      rw [show ((0 : Nat) : Int) = 0 from rfl, lessR_zero (by omega) f ld rlv, set_row_self] at hE1
                      have HE1 := Lib.hid hE1
                      clear hE1 rl1 rlv hoi
                      go_wp2
                      go_roundw
                      case rel => exact ⟨i + 1, by omega, by go_num, by rw [HE1.out]; exact hRi⟩
                      case measure => simp [intOf]; omega
                    · have hx1 : ((xn : Int) != 0) = true := by simp; omega
                      have hRd := hRi.below (below_drewn wr 1)
                      simp only [← World.drew_is_drewN] at hRd
                      clear hoi
                      obtain ⟨gO', vi', hgO, hvi', cid, -, hoi⟩ := hRd.ob.get hir
                      cases hgO
                      obtain rfl : _ = vi' := Option.some.inj (hvi.symm.trans hvi')
                      obtain ⟨gO', vn', hgO, hvn', cnp, -, hon⟩ := hRd.ob.get hnr
                      cases hgO
                      obtain rfl : _ = vn' := Option.some.inj (hvx.symm.trans hvn')
                      rw [HTOP.out i hi] at hon
                      have hap := hRd.ob.sep np i _ _ (fun e => by rw [e] at hin'; simp at hin') hvx hvi
                      clear hvi' hvn' cid
                      simp only at hoi hon cnp
                      have htd := HT.out.keep hRd.b
                      obtain ⟨bs, ms, s1, s2⟩ := tab_at htd.sub q0 hxq
                      rw [show a2.add 0 = a2 from by simp [Addr.add]] at s1
                      obtain ⟨bb1, bb2⟩ := sumP_bd (p := p) (by omega) k (p - 1) ((0 : Nat) : Int) (xn : Int)
                      rw [HQ.out] at bb2
                      obtain ⟨fx, hfx, hfxq⟩ := nat_of bb1 bb2
                      rw [hfx] at s2
                      have hnew : mixP (row (elimTo p k f np ld cc R1 i) i) (addF p k f (row (elimTo p k f np ld cc R1 i) i) ld fx) y2 = lessR p k f (row (elimTo p k f np ld cc R1 i) i) ld xn := by
                        have := mixP_less (p := p) (by omega) k f (xn : Int) (row (elimTo p k f np ld cc R1 i) i) ld
                        rw [rl1, show sumP p k (p - 1) 0 (xn : Int) = (fx : Int) from hfx] at this
                        exact this
                      rw [HQ.out] at rlv
                      have hadd := addTimes_any p k f q (some a1) (some a2) (some a3) (some a4) c1 c2 c3 c4 w wr.drew HQ.out (by omega) (by omega) HT.out hRd.b (some ⟨gi, 0, none⟩) (some ⟨gx, 0, none⟩) y2 vi3 v3 _ ld fx hoi hon hap rlv (by rw [← HQ.out]; exact HLV.out) ⟨by omega, by omega⟩ (by omega)
                      rw [hnew] at hadd
                      have HE1 := Lib.hid hE1
                      have y0 : wr.drew.cell? ⟨w.heap.size, 0, none⟩ = some (.int .i64 q) := by have := hRd.t.cell 0; rw [htv] at this; exact this
                      have y1 : wr.drew.cell? ⟨w.heap.size, 1, none⟩ = some (.slice (some a1) q c1) := by have := hRd.t.cell 1; rw [htv] at this; exact this
                      have y2' : wr.drew.cell? ⟨w.heap.size, 2, none⟩ = some (.slice (some a2) q c2) := by have := hRd.t.cell 2; rw [htv] at this; exact this
                      have y3 : wr.drew.cell? ⟨w.heap.size, 3, none⟩ = some (.slice (some a3) q c3) := by have := hRd.t.cell 3; rw [htv] at this; exact this
                      have y4 : wr.drew.cell? ⟨w.heap.size, 4, none⟩ = some (.slice (some a4) q c4) := by have := hRd.t.cell 4; rw [htv] at this; exact this
                      have cgd : wr.drew.cell? ⟨gc, 0, none⟩ = some (.int .i64 cc) := hRd.c.cell 0
                      have cld : wr.drew.cell? ⟨gi, cc, none⟩ = some (.int .i64 xn) := cl2
                      clear hfx bb1 bb2 htd hE1 hnew rl1 rlv hoi hon hap
                      go_wp2
                      clear ci cl2 cgc hRi
                      refine region_lastD (P := Tryz.prog) (S := fun w' => w'.cell? ⟨w.heap.size, 0, none⟩ = some (.int .i64 q) ∧ w'.cell? ⟨w.heap.size, 1, none⟩ = some (.slice (some a1) q c1) ∧ w'.cell? ⟨w.heap.size, 2, none⟩ = some (.slice (some a2) q c2) ∧ w'.cell? ⟨w.heap.size, 3, none⟩ = some (.slice (some a3) q c3) ∧ w'.cell? ⟨w.heap.size, 4, none⟩ = some (.slice (some a4) q c4) ∧ w'.cell? ⟨gO, np, none⟩ = some (.slice (some ⟨gx, 0, none⟩) y2 v3) ∧ w'.cell? ⟨gc, 0, none⟩ = some (.int .i64 cc) ∧ w'.cell? ⟨gi, cc, none⟩ = some (.int .i64 xn) ∧ w'.cell? a2 = some (.slice (some bs) q ms) ∧ w'.cell? (bs.add xn) = some (.int .i64 fx)) (by kernel_rfl) (by simp only [List.getLast?_cons_cons, List.getLast?_singleton]; rfl) (by dsimp only [List.dropLast]) (by kernel_rfl) ⟨y0, y1, y2', y3, y4, cnp, cgd, cld, s1, s2⟩ ?_
                      intro hS
                      refine wpAnyH_take (i := 0) (v := ?_) rfl (by kernel_rfl) (by kernel_rfl) (by kernel_rfl) (fun _ _ _ h => h) (Or.inl ⟨by rfl, ?_⟩) (by assumption) ?_
                      rotate_left
                      · (intro w hSw; (try dsimp only at hSw); go_simp; (try with_reducible rfl))
                      simp only [Act.put, List.setIfInBounds_toArray, List.set_cons_zero, List.set_cons_succ]
                      refine wpAnyH_take (i := 1) (v := ?_) rfl (by kernel_rfl) (by kernel_rfl) (by kernel_rfl) (fun _ _ _ h => h) (Or.inl ⟨by rfl, ?_⟩) (by assumption) ?_
                      rotate_left
                      · (intro w hSw; (try dsimp only at hSw); go_simp; (try with_reducible rfl))
                      simp only [Act.put, List.setIfInBounds_toArray, List.set_cons_zero, List.set_cons_succ]
                      refine wpAnyH_take (i := 2) (v := ?_) rfl (by kernel_rfl) (by kernel_rfl) (by kernel_rfl) (fun _ _ _ h => h) (Or.inl ⟨by rfl, ?_⟩) (by assumption) ?_
                      rotate_left
                      · (intro w hSw; (try dsimp only at hSw); go_simp; (try with_reducible rfl))
                      simp only [Act.put, List.setIfInBounds_toArray, List.set_cons_zero, List.set_cons_succ]
                      refine wpAnyH_take (i := 3) (v := ?_) rfl (by kernel_rfl) (by kernel_rfl) (by kernel_rfl) (fun _ _ _ h => h) (Or.inl ⟨by rfl, ?_⟩) (by assumption) ?_
                      rotate_left
                      · (intro w hSw; (try dsimp only at hSw); go_simp; (try with_reducible rfl))
                      simp only [Act.put, List.setIfInBounds_toArray, List.set_cons_zero, List.set_cons_succ]
                      refine wpAnyH_take (i := 4) (v := ?_) rfl (by kernel_rfl) (by kernel_rfl) (by kernel_rfl) (fun _ _ _ h => h) (Or.inl ⟨by rfl, ?_⟩) (by assumption) ?_
                      rotate_left
                      · (intro w hSw; (try dsimp only at hSw); go_simp; (try with_reducible rfl))
                      simp only [Act.put, List.setIfInBounds_toArray, List.set_cons_zero, List.set_cons_succ]
                      refine wpAnyH_take (i := 5) (v := ?_) rfl (by kernel_rfl) (by kernel_rfl) (by kernel_rfl) (fun _ _ _ h => h) (Or.inl ⟨by rfl, ?_⟩) (by assumption) ?_
                      rotate_left
                      · (intro w hSw; (try dsimp only at hSw); go_simp; (try with_reducible rfl))
                      simp only [Act.put, List.setIfInBounds_toArray, List.set_cons_zero, List.set_cons_succ]
                      refine wpAnyH_take (i := 6) (v := ?_) rfl (by kernel_rfl) (by kernel_rfl) (by kernel_rfl) (fun _ _ _ h => h) (Or.inl ⟨by rfl, ?_⟩) (by assumption) ?_
                      rotate_left
                      · (intro w hSw; (try dsimp only at hSw); go_simp; (try with_reducible rfl))
                      simp only [Act.put, List.setIfInBounds_toArray, List.set_cons_zero, List.set_cons_succ]
                      refine wpAnyH_take (i := 7) (v := ?_) rfl (by kernel_rfl) (by kernel_rfl) (by kernel_rfl) (fun _ _ _ h => h) (Or.inl ⟨by rfl, ?_⟩) (by assumption) ?_
                      rotate_left
                      · (intro w hSw; (try dsimp only at hSw); go_simp; (try with_reducible rfl))
                      simp only [Act.put, List.setIfInBounds_toArray, List.set_cons_zero, List.set_cons_succ]
                      refine wpAnyH_take (i := 8) (v := ?_) rfl (by kernel_rfl) (by kernel_rfl) (by kernel_rfl) (fun _ _ _ h => h) (Or.inl ⟨by rfl, ?_⟩) (by assumption) ?_
                      rotate_left
                      · (intro w hSw; (try dsimp only at hSw); go_simp; (try with_reducible rfl))
                      simp only [Act.put, List.setIfInBounds_toArray, List.set_cons_zero, List.set_cons_succ]
                      refine wpAnyH_take (i := 9) (v := ?_) rfl (by kernel_rfl) (by kernel_rfl) (by kernel_rfl) (fun _ _ _ h => h) (Or.inl ⟨by rfl, ?_⟩) (by assumption) ?_
                      rotate_left
                      · (intro w hSw; (try dsimp only at hSw); go_simp; (try with_reducible rfl))
                      simp only [Act.put, List.setIfInBounds_toArray, List.set_cons_zero, List.set_cons_succ]
                      refine wpAnyH_take (i := 10) (v := ?_) rfl (by kernel_rfl) (by kernel_rfl) (by kernel_rfl) (fun _ _ _ h => h) (Or.inl ⟨by rfl, ?_⟩) (by assumption) ?_
                      rotate_left
                      · (intro w hSw; (try dsimp only at hSw); go_simp; (try with_reducible rfl))
                      simp only [Act.put, List.setIfInBounds_toArray, List.set_cons_zero, List.set_cons_succ]
                      refine wpAnyH_take (i := 11) (v := ?_) rfl (by kernel_rfl) (by kernel_rfl) (by kernel_rfl) (fun _ _ _ h => h) (Or.inl ⟨by rfl, ?_⟩) (by assumption) ?_
                      rotate_left
                      · (intro w hSw; (try dsimp only at hSw); go_simp; (try with_reducible rfl))
                      simp only [Act.put, List.setIfInBounds_toArray, List.set_cons_zero, List.set_cons_succ]
                      refine wpAnyH_take (i := 12) (v := ?_) rfl (by kernel_rfl) (by kernel_rfl) (by kernel_rfl) (fun _ _ _ h => h) (Or.inl ⟨by rfl, ?_⟩) (by assumption) ?_
                      rotate_left
                      · (intro w hSw; (try dsimp only at hSw); go_simp; (try with_reducible rfl))
                      simp only [Act.put, List.setIfInBounds_toArray, List.set_cons_zero, List.set_cons_succ]
                      refine wpAnyH_take (i := 13) (v := ?_) rfl (by kernel_rfl) (by kernel_rfl) (by kernel_rfl) (fun _ _ _ h => h) (Or.inl ⟨by rfl, ?_⟩) (by assumption) ?_
                      rotate_left
                      · (intro w hSw; (try dsimp only at hSw); go_simp; (try with_reducible rfl))
                      simp only [Act.put, List.setIfInBounds_toArray, List.set_cons_zero, List.set_cons_succ]
                      refine wpAnyH_take (i := 14) (v := ?_) rfl (by kernel_rfl) (by kernel_rfl) (by kernel_rfl) (fun _ _ _ h => h) (Or.inl ⟨by rfl, ?_⟩) (by assumption) ?_
                      rotate_left
                      · (intro w hSw; (try dsimp only at hSw); go_simp; (try with_reducible rfl))
                      simp only [Act.put, List.setIfInBounds_toArray, List.set_cons_zero, List.set_cons_succ]
                      refine wpAnyH_take (i := 15) (v := ?_) rfl (by kernel_rfl) (by kernel_rfl) (by kernel_rfl) (fun _ _ _ h => h) (Or.inl ⟨by rfl, ?_⟩) (by assumption) ?_
                      rotate_left
                      · (intro w hSw; (try dsimp only at hSw); go_simp; (try with_reducible rfl))
                      simp only [Act.put, List.setIfInBounds_toArray, List.set_cons_zero, List.set_cons_succ]
                      simp only [List.getElem_toArray, List.getElem_cons_succ, List.getElem_cons_zero]
                      refine wpAnyH_done (by kernel_rfl) ?_ _
                      dsimp only [atEnd]
                      clear hS y0 y1 y2' y3 y4 cnp cgd cld s1 s2
                      go_wp2_with (go_at_call 158; refine hadd.mono ?_; rintro e w8 ⟨rfl, ho8, hg8⟩)
                      have hRn := hRd.wrote hvi hg8 ho8
                      rw [← HE1.out] at hRn
                      clear ho8 hg8 hRd hadd
                      go_wp2
                      go_roundw
                      case rel => exact ⟨i + 1, by omega, by go_num, hRn⟩
                      case measure => simp [intOf]; omega
                · obtain rfl : r = i := by omega
                  rw [← HSE.out] at hRi
                  have cgc : wr.cell? ⟨gc, 0, none⟩ = some (.int .i64 cc) := hRi.c.cell 0
                  have hws := hRi.b.size
                  by_cases hend : np + 1 = r
                  · have eqe : ((np : Int) + 1 == (r : Int)) = true := by rw [← hend]; simp
                    have HEND := Lib.hid hend
                    have hnoc : np + 1 ≤ oc := by omega
                    clear hend
                    go_wp2_with (at_builtin; refine app_int _ rfl (.tmp 148) (.tmp 150) rfl w.heap.size P' np pc PV rfl hRi.pv (cc : Int) wr.heap.size rfl rfl ⟨by omega, by omega⟩ (by omega) hws ?_; intro P4 pc4 w4 ho4 hg4 hf4; have hRm := hRi.more hg4 ho4 hf4; have cgc4 : w4.cell? ⟨gc, 0, none⟩ = some (.int .i64 cc) := hRm.c.cell 0)
                    have hfin : RSt w w4 w.heap.size tv gO r oc vsx (redTo p k f rows (cc + 1)).1 P4 (np + 1) pc4 (redTo p k f rows (cc + 1)).2 gc cc := by rw [HST.out]; exact hRm
                    go_ret3
                    rw [form_at p k f (rows := rows) (nn := y2) (cc := cc + 1) HR0.out (by omega) (.inr (by rw [hfin.pv.len, HLr.out]; exact HEND.out)), hfin.pv.len]
                    exact ret_red hfin (by rw [HEND.out]; exact Nat.le_refl _) dm
                  · have eqe : ((np : Int) + 1 == (r : Int)) = false := by simp; omega
                    go_wp2_with (at_builtin; refine app_int _ rfl (.tmp 148) (.tmp 150) rfl w.heap.size P' np pc PV rfl hRi.pv (cc : Int) wr.heap.size rfl rfl ⟨by omega, by omega⟩ (by omega) hws ?_; intro P4 pc4 w4 ho4 hg4 hf4; have hRm := hRi.more hg4 ho4 hf4; have cgc4 : w4.cell? ⟨gc, 0, none⟩ = some (.int .i64 cc) := hRm.c.cell 0)
                    have hfin : RSt w w4 w.heap.size tv gO r oc vsx (redTo p k f rows (cc + 1)).1 P4 (np + 1) pc4 (redTo p k f rows (cc + 1)).2 gc cc := by rw [HST.out]; exact hRm
                    have hfr := hfin.fresh ((cc : Int) + 1)
                    have hm := Lib.hid (celOf_is (hfr.c.cell 0))
                    go_roundw
                    case rel => exact ⟨cc + 1, w4.heap.size, vsx, P4, np + 1, pc4, dm, by omega, rfl, by go_num, rfl, hdmq, by omega, hfr⟩
                    case measure => rw [hwr.out, hm.out]; omega
    · obtain rfl : nn = cc := by omega
      have hr0 : 0 < r := by omega
      have hoc := hR.ob.os.cap
      obtain ⟨gO', v0, hgO, -, ch0, -, hoi0⟩ := hR.ob.get (k := 0) (by omega)
      cases hgO
      have hv0 : v0.2.1 = nn := by rw [← hoi0.len]; exact (hmat 0 (by rw [hrl]; omega)).1
      obtain ⟨y1, y2, y3⟩ := v0
      simp only at hv0 ch0
      subst hv0
      have hnoc : np ≤ oc := by omega
      have HFE := Lib.hid (form_at p k f (rows := rows) (nn := y2) (cc := y2) HR0.out (Nat.le_refl _) (.inl rfl))
      rw [hnp] at HFE
      clear hoi0 hnp hrl hmat hcel
      go_wp2
      go_quiet (fail)
      go_wp2
      go_ret3
      rw [HFE.out]
      exact ret_red (hR.below (below_drewn wr _)) (by omega) dd
end Go.Proofs.YtdkbcjdimhgmnaaGreat
