/- The automorphisms that a search finds are all of them, plain. No program in sight. -/
import Derived.Test.YtkihflnenifcgaaGreatDoorZAR
import Derived.Test.YtkihflnenifcgaaGreatDoorZAB
import Derived.Test.YtkihflnenifcgaaGreatDoorZAD
import Derived.Test.YtkihflnenifcgaaGreatDoorZAF
set_option linter.unusedVariables false
set_option linter.unusedSimpArgs false
namespace Go.Proofs.YtkihflnenifcgaaGreatDoor

/-! the automorphisms that a search finds are all of them -/
/-- from a row of a search to an automorphism -/
def autP (s : St) (p : List Int) : List Int := thenP p (invP (row s.best 0))
def autsP (s : St) : List (List Int) := s.best.map (autP s)
theorem perm_ext_nth {n : Nat} {p q : List Int} (hp : p.length = n) (hq : q.length = n) (h : ∀ v, v < n → nth p v = nth q v) : p = q :=
  nth_ext (by omega) fun k hk => h k (by omega)
theorem row0_mem {l : List (List Int)} (h : l ≠ []) : row l 0 ∈ l := by
  cases l with
  | nil => exact absurd rfl h
  | cons a r => simp [row]
section
variable {cs : List Int} {es : List Ed} {b : Nat}
theorem aut_nth {n : Nat} {p q : List Int} (hp : Perm p) (hq : Perm q) (hl : p.length = n) (hm : q.length = n) {v : Nat} (hv : v < n) :
    ∃ u, u < n ∧ nth (thenP p (invP q)) v = u ∧ nth q u = nth p v := by
  have b := perm_lt hp (v := v) (by omega)
  obtain ⟨u, hu, e⟩ := perm_surj hq (i := (nth p v).toNat) (by omega)
  refine ⟨u, by omega, ?_, by omega⟩
  have := invP_nth hq hu
  rw [e, Int.toNat_natCast] at this
  rw [thenP_nth (by omega)]
  exact this
theorem autP_aut (he : EdgesOk cs.length es) (h : (runP cs es b).spent = false) {p : List Int} (hp : p ∈ (runP cs es b).best) : Aut cs es (autP (runP cs es b) p) := by
  have hq := row0_mem (runP_best h)
  have hs := runP_seen (cs := cs) (es := es) h
  obtain ⟨c1, p1⟩ := runP_rows cs es b p hp
  obtain ⟨c2, p2⟩ := runP_rows cs es b _ hq
  obtain ⟨a1, a2⟩ := hs.forms p hp
  obtain ⟨b1, b2⟩ := hs.forms _ hq
  unfold autP
  generalize row (runP cs es b).best 0 = q at *
  have hc := (relC_same (cs := cs) (ds := cs) rfl rfl p1 c1.len p2 c2.len).1 (a1.trans b1.symm)
  have hn := (relE_same he he p1 c1.len p2 c2.len).1 (a2.trans b2.symm)
  refine ⟨thenP_perm p1 (invP_perm p2) (by rw [invP_len, c1.len, c2.len]), by rw [thenP_len, c1.len], fun v hv => ?_, fun x y hx hy => ?_⟩
  · obtain ⟨u, hu, e1, e2⟩ := aut_nth p1 p2 c1.len c2.len hv
    rw [e1]
    exact (hc v u hv hu e2.symm).symm
  · obtain ⟨u, hu, e1, e2⟩ := aut_nth p1 p2 c1.len c2.len hx
    obtain ⟨w, hw, e3, e4⟩ := aut_nth p1 p2 c1.len c2.len hy
    rw [e1, e3]
    exact (hn x y u w hx hy hu hw e2.symm e4.symm).symm
theorem aut_autP (he : EdgesOk cs.length es) (h : (runP cs es b).spent = false) {s : List Int} (ha : Aut cs es s) : ∃ p ∈ (runP cs es b).best, autP (runP cs es b) p = s := by
  have hq := row0_mem (runP_best h)
  have hs := runP_seen (cs := cs) (es := es) h
  have hlf := runP_leaf cs es b _ hq
  obtain ⟨c2, p2⟩ := runP_rows cs es b _ hq
  obtain ⟨b1, b2⟩ := hs.forms _ hq
  unfold autP
  generalize row (runP cs es b).best 0 = q at *
  have hcs : thenP s cs = cs := perm_ext_nth (n := cs.length) (by rw [thenP_len, ha.len]) rfl fun v hv => by
    rw [thenP_nth (by rw [ha.len]; exact hv), ha.col v hv]
  have h1 := Leaf.iso ha.iso hlf (by rw [(refP_cells _ _).len])
  rw [← ha.iso.ref rfl, hcs] at h1
  have hpp : Perm (thenP s q) := thenP_perm ha.perm p2 (by rw [ha.len, c2.len])
  have hpl : (thenP s q).length = cs.length := by rw [thenP_len, ha.len]
  have hx : ∀ x x', x < cs.length → x' < cs.length → nth (thenP s q) x = nth q x' → (nth s x).toNat = x' := fun x x' hx hx' e => by
    rw [thenP_nth (by rw [ha.len]; exact hx)] at e
    have b := perm_lt ha.perm (v := x) (by rw [ha.len]; exact hx)
    rw [ha.len] at b
    exact perm_inj p2 (by rw [c2.len]; omega) (by rw [c2.len]; exact hx') e
  have f1 : relC cs (thenP s q) = (runP cs es b).fc := by
    rw [← b1]
    refine (relC_same rfl rfl hpp hpl p2 c2.len).2 fun x x' h1 h2 e => ?_
    rw [← hx x x' h1 h2 e, ha.col x h1]
  have f2 : relE es (thenP s q) = (runP cs es b).fe := by
    rw [← b2]
    refine (relE_same he he hpp hpl p2 c2.len).2 fun x y x' y' h1 h2 h3 h4 e1 e2 => ?_
    rw [← hx x x' h1 h3 e1, ← hx y y' h2 h4 e2, ha.nb x y h1 h2]
  refine ⟨_, (hs.all _ h1).2.2 ⟨f1, f2⟩, ?_⟩
  refine perm_ext_nth (n := cs.length) (by rw [thenP_len, hpl]) ha.len fun v hv => ?_
  obtain ⟨u, hu, e1, e2⟩ := aut_nth hpp p2 hpl c2.len hv
  have := hx v u hv hu e2.symm
  have b := perm_lt ha.perm (v := v) (by rw [ha.len]; exact hv)
  rw [e1]
  omega
theorem autsP_mem (he : EdgesOk cs.length es) (h : (runP cs es b).spent = false) (s : List Int) : s ∈ autsP (runP cs es b) ↔ Aut cs es s := by
  unfold autsP
  rw [List.mem_map]
  constructor
  · rintro ⟨p, hp, rfl⟩
    exact autP_aut he h hp
  · exact aut_autP he h
theorem autP_inj (h : (runP cs es b).spent = false) {p q : List Int} (hp : p ∈ (runP cs es b).best) (hq : q ∈ (runP cs es b).best) (e : autP (runP cs es b) p = autP (runP cs es b) q) : p = q := by
  have h0 := row0_mem (runP_best h)
  obtain ⟨c1, p1⟩ := runP_rows cs es b p hp
  obtain ⟨c2, p2⟩ := runP_rows cs es b q hq
  obtain ⟨c0, p0⟩ := runP_rows cs es b _ h0
  unfold autP at e
  generalize row (runP cs es b).best 0 = r at *
  refine perm_ext_nth c1.len c2.len fun v hv => ?_
  obtain ⟨u, hu, e1, e2⟩ := aut_nth p1 p0 c1.len c0.len hv
  obtain ⟨w, hw, e3, e4⟩ := aut_nth p2 p0 c2.len c0.len hv
  rw [e, e3] at e1
  have : u = w := by omega
  subst this
  rw [← e2, e4]
theorem autsP_nodup (h : (runP cs es b).spent = false) : (autsP (runP cs es b)).Nodup := by
  unfold autsP
  rw [List.Nodup, List.pairwise_map]
  refine List.Pairwise.imp_of_mem ?_ (runP_nodup cs es b)
  intro p q hp hq hne e
  exact hne (autP_inj h hp hq e)
/-- automorphisms are a group -/
theorem Aut.id (cs : List Int) (es : List Ed) : Aut cs es (iotaP cs.length) :=
  ⟨iotaP_perm _, iotaP_len _, fun v hv => by rw [iotaP_nth hv]; simp, fun x y hx hy => by rw [iotaP_nth hx, iotaP_nth hy]; simp⟩
theorem Aut.comp {s t : List Int} (hs : Aut cs es s) (ht : Aut cs es t) : Aut cs es (thenP s t) := by
  have hb : ∀ {v}, v < cs.length → (nth s v).toNat < cs.length := fun {v} hv => by have := perm_lt hs.perm (v := v) (by rw [hs.len]; exact hv); rw [hs.len] at this; exact this.1
  refine ⟨thenP_perm hs.perm ht.perm (by rw [hs.len, ht.len]), by rw [thenP_len, hs.len], fun v hv => ?_, fun x y hx hy => ?_⟩
  · rw [thenP_nth (by rw [hs.len]; exact hv), ht.col _ (hb hv), hs.col v hv]
  · rw [thenP_nth (by rw [hs.len]; exact hx), thenP_nth (by rw [hs.len]; exact hy), ht.nb _ _ (hb hx) (hb hy), hs.nb x y hx hy]
theorem Aut.inv {s : List Int} (hs : Aut cs es s) : Aut cs es (invP s) := by
  have key : ∀ v, v < cs.length → ∃ u, u < cs.length ∧ nth s u = v ∧ nth (invP s) v = u := fun v hv => by
    obtain ⟨u, hu, e⟩ := perm_surj hs.perm (i := v) (by rw [hs.len]; exact hv)
    refine ⟨u, by rw [← hs.len]; exact hu, e, ?_⟩
    have := invP_nth hs.perm hu
    rw [e] at this
    simpa using this
  refine ⟨invP_perm hs.perm, by rw [invP_len, hs.len], fun v hv => ?_, fun x y hx hy => ?_⟩
  · obtain ⟨u, hu, e1, e2⟩ := key v hv
    rw [e2]
    have := hs.col u hu
    rw [e1] at this
    simpa using this.symm
  · obtain ⟨u, hu, e1, e2⟩ := key x hx
    obtain ⟨w, hw, e3, e4⟩ := key y hy
    rw [e2, e4]
    have := hs.nb u w hu hw
    rw [e1, e3] at this
    simpa using this.symm
end
end Go.Proofs.YtkihflnenifcgaaGreatDoor
/- Plain words for memory: a table of truth values that a call owns, its rows in blocks of their own. No condition beyond those stated. -/
namespace Go.Proofs.YtkihflnenifcgaaGreatDoor
open Go.RowKit

/-- m truth values -/
def bools (m : Nat) (f : Nat → Bool) : List Value := (List.range m).map fun (b : Nat) => .bool (f b)
theorem bools_len (m : Nat) (f : Nat → Bool) : (bools m f).length = m := by simp [bools]
theorem bools_at {m : Nat} {f : Nat → Bool} {b : Nat} (h : b < m) : (bools m f)[b]? = some (.bool (f b)) := by simp [bools, h]
theorem bools_set {m : Nat} {f : Nat → Bool} {b : Nat} {x : Bool} : (bools m f).set b (.bool x) = bools m fun c => if c = b then x else f c := by
  apply List.ext_getElem?
  intro c
  rw [List.getElem?_set]
  by_cases hc : c < m
  · by_cases e : b = c
    · subst e
      rw [if_pos rfl, if_pos (by rw [bools_len]; exact hc), bools_at hc, if_pos rfl]
    · rw [if_neg e, bools_at hc, bools_at hc, if_neg (fun e' => e e'.symm)]
  · rw [List.getElem?_eq_none (l := bools m fun c => if c = b then x else f c) (by rw [bools_len]; omega), List.getElem?_eq_none (l := bools m f) (by rw [bools_len]; omega)]
    split
    · rw [if_neg (by rw [bools_len]; omega)]
    · rfl
theorem bools_false (m : Nat) : List.replicate m (Value.bool false) = bools m fun _ => false := by
  apply List.ext_getElem?
  intro c
  by_cases hc : c < m
  · rw [bools_at hc, List.getElem?_replicate, if_pos hc]
  · rw [List.getElem?_eq_none (by simp; omega), List.getElem?_eq_none (by rw [bools_len]; omega)]
theorem bools_congr {m : Nat} {f g : Nat → Bool} (h : ∀ b, b < m → f b = g b) : bools m f = bools m g := by
  unfold bools
  exact List.map_congr_left fun b hb => by rw [h b (by simpa using hb)]
structure TBv (w : World) (B : Nat) (eo eb : TypeId) (A : Option Addr) (n c : Nat) (vs : List Sl) (m : Nat) (f : Nat → Nat → Bool) : Prop where
  os : OS w B eo 1 A n c (vs.map slv)
  rows : ∀ (j : Nat) (v : Sl), vs[j]? = some v → v.2.1 = m ∧ OS w B eb 1 v.1 v.2.1 v.2.2 (bools m (f j))
  sep : ∀ (i j : Nat) (v u : Sl), i ≠ j → vs[i]? = some v → vs[j]? = some u → apart v u
  ne : eo ≠ eb
def TB (w : World) (B : Nat) (eo eb : TypeId) (A : Option Addr) (n c m : Nat) (f : Nat → Nat → Bool) : Prop := ∃ vs, TBv w B eo eb A n c vs m f
section
variable {w w' : World} {B : Nat} {eo eb : TypeId} {A : Option Addr} {n c m : Nat} {vs : List Sl} {f g : Nat → Nat → Bool}
theorem TBv.len (h : TBv w B eo eb A n c vs m f) : vs.length = n := by have := h.os.len; simpa using this
theorem TBv.outer_row (h : TBv w B eo eb A n c vs m f) {j : Nat} {v : Sl} (hv : vs[j]? = some v) : blk v.1 = none ∨ blk v.1 ≠ blk A := OS.typed (h.rows j v hv).2 h.os (fun e => h.ne e.symm)
theorem TBv.kept {r : Option Nat} (h : TBv w B eo eb A n c vs m f) (hg : w.grownBy w' r) (h0 : blk A = none ∨ blk A ≠ r) (hr : ∀ (j : Nat) (v : Sl), vs[j]? = some v → blk v.1 = none ∨ blk v.1 ≠ r) : TBv w' B eo eb A n c vs m f :=
  ⟨h.os.kept hg h0, fun j v hv => ⟨(h.rows j v hv).1, (h.rows j v hv).2.kept hg (hr j v hv)⟩, h.sep, h.ne⟩
theorem TBv.below (h : TBv w B eo eb A n c vs m f) (hb : Below w.heap.size w w') : TBv w' B eo eb A n c vs m f :=
  h.kept (r := none) (grownBy_of_below hb none) (by cases A <;> simp [blk]) (fun j v _ => by obtain ⟨a, b, c⟩ := v; cases a <;> simp [blk])
theorem TB.below (h : TB w B eo eb A n c m f) (hb : Below w.heap.size w w') : TB w' B eo eb A n c m f := by
  obtain ⟨vs, h⟩ := h
  exact ⟨vs, h.below hb⟩
theorem TB.more {B' : Nat} (h : TB w B eo eb A n c m f) (hB : B' ≤ B) : TB w B' eo eb A n c m f := by
  obtain ⟨vs, h⟩ := h
  exact ⟨vs, h.os.more hB, fun j v hv => ⟨(h.rows j v hv).1, (h.rows j v hv).2.more hB⟩, h.sep, h.ne⟩
theorem TB.setLow (h : TB w B eo eb A n c m f) {p : Addr} (hp : p.block < B) (u : Value) : TB (w.setCell p u) B eo eb A n c m f := by
  obtain ⟨vs, h⟩ := h
  exact ⟨vs, h.os.setLow hp u, fun j v hv => ⟨(h.rows j v hv).1, (h.rows j v hv).2.setLow hp u⟩, h.sep, h.ne⟩
theorem TB.of_own (h : OS w B eo 1 A 0 c []) (hne : eo ≠ eb) : TB w B eo eb A 0 c m f :=
  ⟨[], h, fun j v h => by simp at h, fun i j v u _ h => by simp at h, hne⟩
theorem TB.nil_ (w : World) (B : Nat) {eo eb : TypeId} (hne : eo ≠ eb) (m : Nat) (f : Nat → Nat → Bool) : TB w B eo eb none 0 0 m f := TB.of_own (OS.nil_ w B eo 1) hne
theorem TB.cap (h : TB w B eo eb A n c m f) : n ≤ c ∧ c ≤ 9223372036854775807 := by obtain ⟨vs, h⟩ := h; exact h.os.cap
theorem TB.congr (h : TB w B eo eb A n c m f) (hg : ∀ a b, a < n → b < m → f a b = g a b) : TB w B eo eb A n c m g := by
  obtain ⟨vs, h⟩ := h
  refine ⟨vs, h.os, fun j v hv => ⟨(h.rows j v hv).1, ?_⟩, h.sep, h.ne⟩
  have hj : j < n := by rw [← h.len]; exact (List.getElem?_eq_some_iff.1 hv).1
  rw [← bools_congr (f := f j) fun b hb => hg j b hj hb]
  exact (h.rows j v hv).2
/-- a row's header, and what stands in it -/
theorem TBv.get (h : TBv w B eo eb A n c vs m f) {k : Nat} (hk : k < n) : ∃ g v, A = some ⟨g, 0, none⟩ ∧ vs[k]? = some v ∧ w.cell? ⟨g, k, none⟩ = some (.slice v.1 m v.2.2) ∧ m ≤ v.2.2 ∧ v.2.2 ≤ 9223372036854775807 ∧
    (∀ b, b < m → ∃ r, v.1 = some ⟨r, 0, none⟩ ∧ w.cell? ⟨r, b, none⟩ = some (.bool (f k b)) ∧ w.frozen? ⟨r, b, none⟩ = false ∧ B ≤ r ∧ r < w.heap.size) := by
  have hj : k < vs.length := by rw [h.len]; exact hk
  have hv := List.getElem?_eq_getElem hj
  obtain ⟨g, ha, hc, hf⟩ := h.os.cell (j := k) (u := slv vs[k]) (by rw [List.getElem?_map, hv]; rfl)
  obtain ⟨e, ho⟩ := h.rows k _ hv
  refine ⟨g, vs[k], ha, hv, ?_, ?_, ho.cap.2, fun b hb => ?_⟩
  · rw [hc]; unfold slv; rw [e]
  · have := ho.cap.1; omega
  · obtain ⟨r, hr, hcr, hfr⟩ := ho.cell (bools_at hb)
    have := ho.lt (k := r) (by rw [hr]; rfl)
    exact ⟨r, hr, hcr, hfr, this.1, this.2⟩
/-- a truth value is written over -/
theorem TBv.set (h : TBv w B eo eb A n c vs m f) {k : Nat} {v : Sl} {r : Nat} (hv : vs[k]? = some v) (hr : v.1 = some ⟨r, 0, none⟩) (b : Nat) (x : Bool) :
    TBv (w.setCell ⟨r, b, none⟩ (.bool x)) B eo eb A n c vs m (fun a d => if a = k ∧ d = b then x else f a d) := by
  have hg : w.grownBy (w.setCell ⟨r, b, none⟩ (.bool x)) (blk v.1) := by rw [hr]; exact grown_set
  have hou := h.outer_row hv
  refine ⟨h.os.kept hg ?_, fun j u hu => ⟨(h.rows j u hu).1, ?_⟩, h.sep, h.ne⟩
  · rcases hou with h1 | h1
    · rw [hr] at h1; cases h1
    · exact .inr fun e => h1 e.symm
  · by_cases e : j = k
    · subst e
      rw [hv] at hu
      injection hu with hu
      subst hu
      have ho := (h.rows j v hv).2
      obtain ⟨v1, v2, v3⟩ := v
      simp only at hr
      subst hr
      have := ho.set b (.bool x)
      rw [bools_set] at this
      rwa [bools_congr (g := fun d => if j = j ∧ d = b then x else f j d) fun d _ => by simp] at this
    · have ho := (h.rows j u hu).2.kept hg (h.sep j k u v e hu hv)
      rwa [bools_congr (g := fun d => if j = k ∧ d = b then x else f j d) fun d _ => by simp [e]] at ho
/-- a further row -/
theorem TBv.push (h : TBv w B eo eb A n c vs m f) {v : Sl} (hm : v.2.1 = m) (ho : OS w B eb 1 v.1 v.2.1 v.2.2 (bools m (f n))) (hap : ∀ (j : Nat) (u : Sl), vs[j]? = some u → apart u v)
    {A' : Option Addr} {c' : Nat} (hg : w.grownBy w' (blk A)) (hos : OS w' B eo 1 A' (n + 1) c' (vs.map slv ++ [.slice v.1 v.2.1 v.2.2])) : TB w' B eo eb A' (n + 1) c' m f := by
  have hvA : blk v.1 = none ∨ blk v.1 ≠ blk A := OS.typed ho h.os (fun e => h.ne e.symm)
  have hlen := h.len
  refine ⟨vs ++ [v], by simpa [slv] using hos, fun j u hu => ?_, fun i j u x hij hu hx => ?_, h.ne⟩
  · rw [List.getElem?_append] at hu
    split at hu
    · exact ⟨(h.rows j u hu).1, (h.rows j u hu).2.kept hg (h.outer_row hu)⟩
    · have hj := (List.getElem?_eq_some_iff.1 hu).1
      simp at hj
      have e : j = n := by omega
      rw [e, hlen, Nat.sub_self] at hu
      simp at hu
      subst hu
      subst e
      exact ⟨hm, ho.kept hg hvA⟩
  · rw [List.getElem?_append] at hu hx
    split at hu
    · split at hx
      · exact h.sep i j u x hij hu hx
      · have : x = v := by simpa using List.mem_of_getElem? hx
        subst this
        exact hap i u hu
    · have hu' : u = v := by simpa using List.mem_of_getElem? hu
      subst hu'
      split at hx
      · exact (hap j x hx).symm
      · have a1 := (List.getElem?_eq_some_iff.1 hu).1
        have a2 := (List.getElem?_eq_some_iff.1 hx).1
        simp at a1 a2
        omega
theorem TBv.apart_new (h : TBv w B eo eb A n c vs m f) {v : Sl} (hn : ∀ b, blk v.1 = some b → w.heap.size ≤ b) : ∀ (j : Nat) (u : Sl), vs[j]? = some u → apart u v := fun j u hu => by
  unfold apart
  cases hb : blk u.1 with
  | none => exact .inl rfl
  | some b =>
    refine .inr fun e => ?_
    have h1 := ((h.rows j u hu).2.lt hb).2
    have h2 := hn b e.symm
    omega
end
end Go.Proofs.YtkihflnenifcgaaGreatDoor
/- Appending to memory of a call's own, for this program's slices of numbers and of such slices. No condition beyond those stated. -/
namespace Go.Proofs.YtkihflnenifcgaaGreatDoor
open Go.RowKit

section
variable {w w' : World} {B : Nat} {e2 e1 : TypeId} {A : Option Addr} {n c : Nat} {vs : List Sl} {zss : List (List Int)}
/-- a further row, in a block of its own, behind the append's law -/
theorem ORv.push' (h : ORv w B e2 e1 A n c vs zss) {v : Sl} {z : List Int} (ho : OI w B e1 v.1 v.2.1 v.2.2 z) (hap : ∀ (j : Nat) (u : Sl), vs[j]? = some u → apart u v)
    {A' : Option Addr} {c' : Nat} (hg : w.grownBy w' (blk A)) (hos : OS w' B e2 1 A' (n + 1) c' (vs.map slv ++ [.slice v.1 v.2.1 v.2.2])) : ORv w' B e2 e1 A' (n + 1) c' (vs ++ [v]) (zss ++ [z]) := by
  have hvA : blk v.1 = none ∨ blk v.1 ≠ blk A := OS.typed ho.os h.os (fun e => h.ne e.symm)
  refine ⟨by simpa [slv] using hos, by simp [h.len], fun j u y hu hy => ?_, fun i j u x hij hu hx => ?_, h.ne⟩
  · rw [List.getElem?_append] at hu hy
    rw [h.len] at hu
    split at hu
    · rename_i hj
      rw [if_pos hj] at hy
      exact (h.rows j u y hu hy).kept hg (h.outer_row hu)
    · rename_i hj
      rw [if_neg hj] at hy
      have e : j - zss.length = 0 := by
        have := (List.getElem?_eq_some_iff.1 hu).1
        simp at this; omega
      rw [e] at hu hy
      simp at hu hy
      subst hu; subst hy
      exact ho.kept hg hvA
  · rw [List.getElem?_append] at hu hx
    split at hu
    · split at hx
      · exact h.sep i j u x hij hu hx
      · have : x = v := by
          have := List.mem_of_getElem? hx
          simpa using this
        subst this
        exact hap i u hu
    · have hu' : u = v := by
        have := List.mem_of_getElem? hu
        simpa using this
      subst hu'
      split at hx
      · exact (hap j x hx).symm
      · rename_i h1 h2
        have a1 := (List.getElem?_eq_some_iff.1 hu).1
        have a2 := (List.getElem?_eq_some_iff.1 hx).1
        simp at a1 a2
        omega
end
section
variable {ops : Array Oper} {rest : List Oper} {o : Oper} {a : Act} {Q : Exit → Act → World → Prop}
/-- one number more -/
theorem app_int (w : World) (hgd : o.guard = none) (s x : Operand) (ho : o.op = .call { callee := .builtin .append, args := #[s, x], argTypes := #[24, 24] })
    (B : Nat) (A : Option Addr) (n c : Nat) (zs : List Int) (hs : a.eval s = .slice A n c) (hown : OI w B 2 A n c zs) (u : Int) (g : Nat) (hx : a.eval x = .slice (some ⟨g, 0, none⟩) 1 1) (hgx : g = w.heap.size)
    (hu : I64 u) (hbig : n + 1 ≤ 2199023255552) (hB : B ≤ w.heap.size)
    (h : ∀ A' c' w', OI w' B 2 A' (n + 1) c' (zs ++ [u]) → w.grownBy w' (blk A) → (blk A' = blk A ∨ ∃ k, blk A' = some k ∧ w.heap.size ≤ k) → wpList Tryz.prog ops Q rest (a.put o.dst (.slice A' (n + 1) c')) w') :
    wpList Tryz.prog ops Q (o :: rest) a (w.alloc (.cells #[.int .i64 u] 2)) :=
  wpList_app1' w hgd s x 24 ho 2 (.int .i64 0) 8 Tryz.underlying24 int_info rfl (by omega) B A n c (ints zs) hs hown.os (.int .i64 u) g hx hgx rfl hbig hB
    fun A' c' w' h1 h2 h3 => h A' c' w' (OI.snoc h1 hown.all hu) h2 h3
/-- the numbers of another slice -/
theorem app_ints (w : World) (hgd : o.guard = none) (s x : Operand) (ho : o.op = .call { callee := .builtin .append, args := #[s, x], argTypes := #[24, 24] })
    (B : Nat) (A : Option Addr) (n c : Nat) (zs : List Int) (hs : a.eval s = .slice A n c) (hown : OI w B 2 A n c zs) (A2 : Option Addr) (m c2 : Nat) (ys : List Int) (hx : a.eval x = .slice A2 m c2) (hr : RI w A2 m ys)
    (hbig : n + m ≤ 2199023255552) (hB : B ≤ w.heap.size)
    (h : ∀ A' c' w', OI w' B 2 A' (n + m) c' (zs ++ ys) → w.grownBy w' (blk A) → (blk A' = blk A ∨ blk A' = some w.heap.size) → wpList Tryz.prog ops Q rest (a.put o.dst (.slice A' (n + m) c')) w') :
    wpList Tryz.prog ops Q (o :: rest) a w :=
  wpList_app w hgd s x 24 ho 2 (.int .i64 0) 1 8 Tryz.underlying24 int_info rfl (by omega) (by omega) B A n c (ints zs) hs hown.os A2 m c2 (ints ys) hx (by have := hr.len; simp [ints, this]) hr.news (ints_oneCell ys) hbig hB
    fun A' c' w' h1 h2 h3 => h A' c' w' (OI.cat h1 hown.all hr.all64) h2 h3
/-- one row more: the row's block lies apart from all others -/
theorem app_row (w : World) (hgd : o.guard = none) (s x : Operand) (ho : o.op = .call { callee := .builtin .append, args := #[s, x], argTypes := #[54, 54] })
    (B : Nat) (A : Option Addr) (n c : Nat) (vs : List Sl) (zss : List (List Int)) (hs : a.eval s = .slice A n c) (hown : ORv w B 24 2 A n c vs zss) (v : Sl) (z : List Int) (hv : OI w B 2 v.1 v.2.1 v.2.2 z) (hap : ∀ (j : Nat) (u : Sl), vs[j]? = some u → apart u v)
    (g : Nat) (hx : a.eval x = .slice (some ⟨g, 0, none⟩) 1 1) (hgx : g = w.heap.size) (hbig : n + 1 ≤ 2199023255552) (hB : B ≤ w.heap.size)
    (h : ∀ A' c' w', ORv w' B 24 2 A' (n + 1) c' (vs ++ [v]) (zss ++ [z]) → w.grownBy w' (blk A) → (blk A' = blk A ∨ ∃ k, blk A' = some k ∧ w.heap.size ≤ k) → wpList Tryz.prog ops Q rest (a.put o.dst (.slice A' (n + 1) c')) w') :
    wpList Tryz.prog ops Q (o :: rest) a (w.alloc (.cells #[.slice v.1 v.2.1 v.2.2] 24)) :=
  wpList_app1' w hgd s x 54 ho 24 (.slice none 0 0) 24 Tryz.underlying54 ints_info rfl (by omega) B A n c (vs.map slv) hs hown.os (.slice v.1 v.2.1 v.2.2) g hx hgx rfl hbig hB
    fun A' c' w' h1 h2 h3 => h A' c' w' (ORv.push' hown hv hap h2 h1) h2 h3
end
end Go.Proofs.YtkihflnenifcgaaGreatDoor
