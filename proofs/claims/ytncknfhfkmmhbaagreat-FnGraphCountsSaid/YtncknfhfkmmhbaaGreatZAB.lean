/- Plain words for memory: a slice of slices of numbers that a call owns, its rows in blocks of their own. No condition beyond those stated. -/
import Derived.Test.YtncknfhfkmmhbaaGreatZAA
set_option linter.unusedVariables false
set_option linter.unusedSimpArgs false
namespace Go.Proofs.YtncknfhfkmmhbaaGreat
open Go.RowKit

abbrev Sl := Option Addr × Nat × Nat
def slv (v : Sl) : Value := .slice v.1 v.2.1 v.2.2
theorem slv_oneCell (vs : List Sl) : ∀ u ∈ vs.map slv, u.oneCell' = true := by
  intro u hu
  obtain ⟨z, _, rfl⟩ := List.mem_map.1 hu
  rfl

/-- two slices do not share a block -/
def apart (a b : Sl) : Prop := blk a.1 = none ∨ blk a.1 ≠ blk b.1
theorem apart.symm {a b : Sl} (h : apart a b) : apart b a := by
  unfold apart at *
  rcases h with h | h
  · by_cases hb : blk b.1 = none
    · exact .inl hb
    · exact .inr (by rw [h]; exact hb)
  · exact .inr h.symm

structure ORv (w : World) (B : Nat) (e2 e1 : TypeId) (A : Option Addr) (n c : Nat) (vs : List Sl) (zss : List (List Int)) : Prop where
  os : OS w B e2 1 A n c (vs.map slv)
  len : vs.length = zss.length
  rows : ∀ (j : Nat) (v : Sl) (z : List Int), vs[j]? = some v → zss[j]? = some z → OI w B e1 v.1 v.2.1 v.2.2 z
  sep : ∀ (i j : Nat) (v u : Sl), i ≠ j → vs[i]? = some v → vs[j]? = some u → apart v u
  ne : e2 ≠ e1
def OR (w : World) (B : Nat) (e2 e1 : TypeId) (A : Option Addr) (n c : Nat) (zss : List (List Int)) : Prop := ∃ vs, ORv w B e2 e1 A n c vs zss

section
variable {w w' : World} {B : Nat} {e2 e1 : TypeId} {A : Option Addr} {n c : Nat} {vs : List Sl} {zss : List (List Int)}
theorem OS.typed {A' : Option Addr} {n' c' : Nat} {xs ys : List Value} {size size' : Nat} (h : OS w B e2 size A n c xs) (k : OS w B e1 size' A' n' c' ys) (hne : e2 ≠ e1) : blk A = none ∨ blk A ≠ blk A' := by
  rcases h.cases with ⟨rfl, _⟩ | ⟨g, cur, rfl, _, hg, _⟩
  · exact .inl rfl
  · rcases k.cases with ⟨rfl, _⟩ | ⟨g', cur', rfl, _, hg', _⟩
    · exact .inr (by simp [blk])
    · refine .inr fun e => ?_
      have : g = g' := by simpa [blk] using e
      subst this
      rw [hg] at hg'
      injection hg' with hg'
      injection hg' with _ ht
      exact hne ht
theorem ORv.slen (h : ORv w B e2 e1 A n c vs zss) : zss.length = n := by have := h.os.len; have := h.len; simp at *; omega
theorem OR.len (h : OR w B e2 e1 A n c zss) : zss.length = n := by obtain ⟨vs, h⟩ := h; exact h.slen
theorem OR.os_cap (h : OR w B e2 e1 A n c zss) : n ≤ c ∧ c ≤ 9223372036854775807 := by obtain ⟨vs, h⟩ := h; exact h.os.cap
theorem OR.nil_ (w : World) (B : Nat) {e2 e1 : TypeId} (hne : e2 ≠ e1) : OR w B e2 e1 none 0 0 [] :=
  ⟨[], OS.nil_ w B e2 1, rfl, fun _ _ _ h => by simp at h, fun _ _ _ _ _ h => by simp at h, hne⟩
theorem ORv.outer_row (h : ORv w B e2 e1 A n c vs zss) {j : Nat} {v : Sl} (hv : vs[j]? = some v) : blk v.1 = none ∨ blk v.1 ≠ blk A := by
  have hj : j < zss.length := by rw [← h.len]; exact (List.getElem?_eq_some_iff.1 hv).1
  exact OS.typed (h.rows j v _ hv (List.getElem?_eq_getElem hj)).os h.os (fun e => h.ne e.symm)
/-- only the outer row's block has been written, or a new block made -/
theorem ORv.of_outer (h : ORv w B e2 e1 A n c vs zss) (hg : w.grownBy w' (blk A)) {A' : Option Addr} {n' c' : Nat} (ho : OS w' B e2 1 A' n' c' (vs.map slv)) : ORv w' B e2 e1 A' n' c' vs zss :=
  ⟨ho, h.len, fun j v z hv hz => (h.rows j v z hv hz).kept hg (h.outer_row hv), h.sep, h.ne⟩
theorem ORv.kept {r : Option Nat} (h : ORv w B e2 e1 A n c vs zss) (hg : w.grownBy w' r) (h0 : blk A = none ∨ blk A ≠ r) (hr : ∀ (j : Nat) (v : Sl), vs[j]? = some v → blk v.1 = none ∨ blk v.1 ≠ r) : ORv w' B e2 e1 A n c vs zss :=
  ⟨h.os.kept hg h0, h.len, fun j v z hv hz => (h.rows j v z hv hz).kept hg (hr j v hv), h.sep, h.ne⟩
theorem OR.alloc (h : OR w B e2 e1 A n c zss) (o : Obj) : OR (w.alloc o) B e2 e1 A n c zss := by
  obtain ⟨vs, h⟩ := h
  exact ⟨vs, h.kept (r := none) (World.grownBy_alloc w o none) (by cases A <;> simp [blk]) (fun j v _ => by obtain ⟨a, b, c⟩ := v; cases a <;> simp [blk])⟩
theorem OR.below (h : OR w B e2 e1 A n c zss) (hb : Below w.heap.size w w') : OR w' B e2 e1 A n c zss := by
  obtain ⟨vs, h⟩ := h
  exact ⟨vs, h.kept (r := none) (grownBy_of_below hb none) (by cases A <;> simp [blk]) (fun j v _ => by obtain ⟨a, b, c⟩ := v; cases a <;> simp [blk])⟩
theorem OR.drewN (h : OR w B e2 e1 A n c zss) (k : Nat) : OR (w.drewN k) B e2 e1 A n c zss := by
  obtain ⟨vs, h⟩ := h
  exact ⟨vs, h.os.drewN k, h.len, fun j v z hv hz => (h.rows j v z hv hz).drewN k, h.sep, h.ne⟩
theorem OR.more {B' : Nat} (h : OR w B e2 e1 A n c zss) (hB : B' ≤ B) : OR w B' e2 e1 A n c zss := by
  obtain ⟨vs, h⟩ := h
  exact ⟨vs, h.os.more hB, h.len, fun j v z hv hz => (h.rows j v z hv hz).more hB, h.sep, h.ne⟩
theorem OR.belowB {D : Nat} (h : OR w B e2 e1 A n c zss) (hb : Below D w w') (hD : w.heap.size ≤ D) : OR w' B e2 e1 A n c zss := h.below (hb.mono hD)
theorem OR.reads (h : OR w B e2 e1 A n c zss) : RR w A n zss := by
  refine ⟨h.len, fun j z hz => ?_⟩
  obtain ⟨vs, h⟩ := h
  have hj : j < vs.length := by rw [h.len]; exact (List.getElem?_eq_some_iff.1 hz).1
  have hv := List.getElem?_eq_getElem hj
  obtain ⟨ad, ha, hc⟩ := h.os.cells j (slv vs[j]) (by rw [List.getElem?_map, hv]; rfl)
  have hr := h.rows j _ z hv hz
  exact ⟨ad, _, ha, hc, _, _, _, rfl, hr.os.cap.1, hr.os.cap.2, hr.reads⟩
theorem OS.setLow {size : Nat} {xs : List Value} (h : OS w B e2 size A n c xs) {p : Addr} (hp : p.block < B) (u : Value) : OS (w.setCell p u) B e2 size A n c xs :=
  h.setFar (p := p) (fun e => by have := (h.lt e).1; omega) u
theorem OI.setLow {zs : List Int} (h : OI w B e1 A n c zs) {p : Addr} (hp : p.block < B) (u : Value) : OI (w.setCell p u) B e1 A n c zs := ⟨h.os.setLow hp u, h.all⟩
theorem OR.setLow (h : OR w B e2 e1 A n c zss) {p : Addr} (hp : p.block < B) (u : Value) : OR (w.setCell p u) B e2 e1 A n c zss := by
  obtain ⟨vs, h⟩ := h
  exact ⟨vs, h.os.setLow hp u, h.len, fun j v z hv hz => (h.rows j v z hv hz).setLow hp u, h.sep, h.ne⟩
theorem ORv.get (h : ORv w B e2 e1 A n c vs zss) {k : Nat} (hk : k < n) : ∃ g v, A = some ⟨g, 0, none⟩ ∧ vs[k]? = some v ∧ w.cell? ⟨g, k, none⟩ = some (.slice v.1 v.2.1 v.2.2) ∧ w.frozen? ⟨g, k, none⟩ = false ∧ OI w B e1 v.1 v.2.1 v.2.2 (row zss k) := by
  have hz : k < zss.length := by rw [h.slen]; exact hk
  have hj : k < vs.length := by rw [h.len]; exact hz
  have hv := List.getElem?_eq_getElem hj
  obtain ⟨g, ha, hc, hf⟩ := h.os.cell (j := k) (u := slv vs[k]) (by rw [List.getElem?_map, hv]; rfl)
  exact ⟨g, vs[k], ha, hv, hc, hf, by rw [row_get hz]; exact h.rows k _ _ hv (List.getElem?_eq_getElem hz)⟩
theorem OR.made (w : World) (B : Nat) {e2 e1 : TypeId} (hne : e2 ≠ e1) (n : Nat) (hB : B ≤ w.heap.size) (hn : n ≤ 9223372036854775807) :
    OR (w.alloc (.cells (madeCells #[.slice none 0 0] n) e2)) B e2 e1 (some ⟨w.heap.size, 0, none⟩) n n (List.replicate n []) := by
  refine ⟨List.replicate n (none, 0, 0), ?_, by simp, fun j v z hv hz => ?_, fun i j v u _ hv _ => ?_, hne⟩
  · have := OS.made w B e2 (.slice none 0 0) n hB hn
    rwa [show List.replicate n (Value.slice none 0 0) = (List.replicate n ((none, 0, 0) : Sl)).map slv from by simp [slv]] at this
  · have e := List.eq_of_mem_replicate (List.mem_of_getElem? hv)
    have e' := List.eq_of_mem_replicate (List.mem_of_getElem? hz)
    subst e; subst e'
    exact OI.nil_ _ _ _
  · have e := List.eq_of_mem_replicate (List.mem_of_getElem? hv)
    subst e
    exact .inl rfl
/-- place k is given another row: the one that was there may have been written, the new one lies in its block or in a new one -/
theorem ORv.upd {g : Nat} (h : ORv w B e2 e1 (some ⟨g, 0, none⟩) n c vs zss) {k : Nat} {v v' : Sl} {z : List Int} (hv : vs[k]? = some v) (hg : w.grownBy w' (blk v.1))
    (ho : OI w' B e1 v'.1 v'.2.1 v'.2.2 z) (hn : blk v'.1 = none ∨ blk v'.1 = blk v.1 ∨ ∃ b, blk v'.1 = some b ∧ w.heap.size ≤ b) :
    OR (w'.setCell ⟨g, k, none⟩ (.slice v'.1 v'.2.1 v'.2.2)) B e2 e1 (some ⟨g, 0, none⟩) n c (zss.set k z) := by
  have hou := h.outer_row hv
  have hou' : blk v.1 ≠ some g := by
    rcases hou with h1 | h1
    · rw [h1]; simp
    · exact h1
  have hos : OS w' B e2 1 (some ⟨g, 0, none⟩) n c (vs.map slv) := h.os.kept hg (.inr (fun e => hou' e.symm))
  have hgl := (h.os.lt (k := g) rfl).2
  have hfar : ∀ u : Sl, blk u.1 ≠ some g → ∀ z, OI w' B e1 u.1 u.2.1 u.2.2 z → OI (w'.setCell ⟨g, k, none⟩ (.slice v'.1 v'.2.1 v'.2.2)) B e1 u.1 u.2.1 u.2.2 z :=
    fun u hu z hz => ⟨hz.os.setFar (p := ⟨g, k, none⟩) hu _, hz.all⟩
  have hv'g : blk v'.1 ≠ some g := by
    rcases hn with h1 | h1 | ⟨b, h1, h2⟩
    · rw [h1]; simp
    · rw [h1]; exact hou'
    · rw [h1]; simp; omega
  have hlt : ∀ (j : Nat) (u : Sl) (b : Nat), vs[j]? = some u → blk u.1 = some b → b < w.heap.size := fun j u b hu hb => by
    have hj : j < zss.length := by rw [← h.len]; exact (List.getElem?_eq_some_iff.1 hu).1
    exact ((h.rows j u _ hu (List.getElem?_eq_getElem hj)).os.lt hb).2
  have hap : ∀ (j : Nat) (u : Sl), j ≠ k → vs[j]? = some u → apart u v' := fun j u hjk hu => by
    have h0 := h.sep j k u v hjk hu hv
    unfold apart at *
    rcases h0 with h0 | h0
    · exact .inl h0
    · rcases hn with h1 | h1 | ⟨b, h1, h2⟩
      · by_cases hb : blk u.1 = none
        · exact .inl hb
        · exact .inr (by rw [h1]; exact hb)
      · exact .inr (by rw [h1]; exact h0)
      · refine .inr fun e => ?_
        rw [h1] at e
        have := hlt j u b hu e
        omega
  refine ⟨vs.set k v', ?_, by simpa using h.len, fun j u y hu hy => ?_, fun i j u x hij hu hx => ?_, h.ne⟩
  · have := hos.set k (.slice v'.1 v'.2.1 v'.2.2)
    rwa [show (vs.map slv).set k (.slice v'.1 v'.2.1 v'.2.2) = (vs.set k v').map slv from by simp [List.map_set, slv]] at this
  · rw [List.getElem?_set] at hu hy
    by_cases e : k = j
    · subst e
      have hk1 : k < vs.length := (List.getElem?_eq_some_iff.1 hv).1
      have hk2 : k < zss.length := by rw [← h.len]; exact hk1
      simp [hk1] at hu; simp [hk2] at hy
      subst hu; subst hy
      exact hfar _ hv'g _ ho
    · simp [e] at hu hy
      have hr := h.rows j u y hu hy
      refine hfar u ?_ y (hr.kept hg ?_)
      · have := h.outer_row hu
        rcases this with h1 | h1
        · rw [h1]; simp
        · exact h1
      · exact h.sep j k u v (fun e' => e e'.symm) hu hv
  · rw [List.getElem?_set] at hu hx
    by_cases e : k = i
    · by_cases e' : k = j
      · exact absurd (e.symm.trans e') hij
      · have hk1 : k < vs.length := (List.getElem?_eq_some_iff.1 hv).1
        subst e
        simp [hk1] at hu; simp [e'] at hx
        subst hu
        exact (hap j x (fun h => e' h.symm) hx).symm
    · by_cases e' : k = j
      · have hk1 : k < vs.length := (List.getElem?_eq_some_iff.1 hv).1
        subst e'
        simp [hk1] at hx; simp [e] at hu
        subst hx
        exact hap i u (fun h => e h.symm) hu
      · simp [e] at hu; simp [e'] at hx
        exact h.sep i j u x hij hu hx
/-- the row at place k was written in its own block -/
theorem ORv.wrote (h : ORv w B e2 e1 A n c vs zss) {k : Nat} {v : Sl} {z : List Int} (hv : vs[k]? = some v) (hg : w.grownBy w' (blk v.1)) (ho : OI w' B e1 v.1 v.2.1 v.2.2 z) :
    ORv w' B e2 e1 A n c vs (zss.set k z) := by
  have hou := h.outer_row hv
  refine ⟨h.os.kept hg ?_, by simpa using h.len, fun j u y hu hy => ?_, h.sep, h.ne⟩
  · rcases hou with h1 | h1
    · by_cases ha : blk A = none
      · exact .inl ha
      · exact .inr (by rw [h1]; exact ha)
    · exact .inr fun e => h1 e.symm
  · rw [List.getElem?_set] at hy
    by_cases e : k = j
    · subst e
      have hk1 : k < vs.length := (List.getElem?_eq_some_iff.1 hv).1
      have hk2 : k < zss.length := by rw [← h.len]; exact hk1
      simp [hk2] at hy
      subst hy
      rw [hv] at hu
      injection hu with hu
      subst hu
      exact ho
    · simp [e] at hy
      exact (h.rows j u y hu hy).kept hg (h.sep j k u v (fun e' => e e'.symm) hu hv)
/-- a further row, in a block of its own, behind the append's law -/
theorem ORv.push (h : ORv w B e2 e1 A n c vs zss) {v : Sl} {z : List Int} (ho : OI w B e1 v.1 v.2.1 v.2.2 z) (hap : ∀ (j : Nat) (u : Sl), vs[j]? = some u → apart u v)
    {A' : Option Addr} {c' : Nat} (hg : w.grownBy w' (blk A)) (hos : OS w' B e2 1 A' (n + 1) c' (vs.map slv ++ [.slice v.1 v.2.1 v.2.2])) : OR w' B e2 e1 A' (n + 1) c' (zss ++ [z]) := by
  have hvA : blk v.1 = none ∨ blk v.1 ≠ blk A := OS.typed ho.os h.os (fun e => h.ne e.symm)
  refine ⟨vs ++ [v], by simpa [slv] using hos, by simp [h.len], fun j u y hu hy => ?_, fun i j u x hij hu hx => ?_, h.ne⟩
  · rw [List.getElem?_append] at hu hy
    rw [h.len] at hu
    split at hu
    · rename_i hj
      rw [if_pos hj] at hy
      exact (h.rows j u y hu hy).kept hg (h.outer_row hu)
    · rename_i hj
      rw [if_neg hj] at hy
      have e : j - zss.length = 0 := by
        have := (List.getElem?_eq_some_iff.1 hu).1
        simp at this; omega
      rw [e] at hu hy
      simp at hu hy
      subst hu; subst hy
      exact ho.kept hg hvA
  · rw [List.getElem?_append] at hu hx
    split at hu
    · split at hx
      · exact h.sep i j u x hij hu hx
      · have : x = v := by
          have := List.mem_of_getElem? hx
          simpa using this
        subst this
        exact hap i u hu
    · have hu' : u = v := by
        have := List.mem_of_getElem? hu
        simpa using this
      subst hu'
      split at hx
      · exact (hap j x hx).symm
      · rename_i h1 h2
        have a1 := (List.getElem?_eq_some_iff.1 hu).1
        have a2 := (List.getElem?_eq_some_iff.1 hx).1
        simp at a1 a2
        omega
theorem ORv.apart_new (h : ORv w B e2 e1 A n c vs zss) {v : Sl} (hn : ∀ b, blk v.1 = some b → w.heap.size ≤ b) : ∀ (j : Nat) (u : Sl), vs[j]? = some u → apart u v := fun j u hu => by
  unfold apart
  cases hb : blk u.1 with
  | none => exact .inl rfl
  | some b =>
    refine .inr fun e => ?_
    have hj : j < zss.length := by rw [← h.len]; exact (List.getElem?_eq_some_iff.1 hu).1
    have h1 := ((h.rows j u _ hu (List.getElem?_eq_getElem hj)).os.lt hb).2
    have h2 := hn b e.symm
    omega
end

/-- a slice of slices of numbers in memory of its own -/
def RetR (w : World) (e2 e1 : TypeId) (zss : List (List Int)) (en : Ending) (w' : World) : Prop := ∃ A n c, en = .returned (.slice A n c) ∧ OR w' w.heap.size e2 e1 A n c zss ∧ Below w.heap.size w w'
def RetRC (w : World) (e2 e1 : TypeId) (zss : List (List Int)) (code : Int) (en : Ending) (w' : World) : Prop := ∃ A n c, en = .returned (.tuple #[.slice A n c, .int .i64 code]) ∧ OR w' w.heap.size e2 e1 A n c zss ∧ Below w.heap.size w w'
end Go.Proofs.YtncknfhfkmmhbaaGreat
