/- Edges: what a slice of them reads as. No condition beyond those stated. -/
import Derived.Test.YtdkbcjdimhgmnaaGreatQGB
set_option linter.unusedVariables false
set_option linter.unusedSimpArgs false
namespace Go.Proofs.YtdkbcjdimhgmnaaGreat
open Go.RowKit
abbrev Ed := Int × Int
def nthE (es : List Ed) (k : Nat) : Ed := es.getD k (0, 0)
theorem nthE_get {es : List Ed} {k : Nat} (h : k < es.length) : nthE es k = es[k] := by simp [nthE, List.getD, h]
structure RE (w : World) (A : Option Addr) (n : Nat) (es : List Ed) : Prop where
  len : es.length = n
  at_ : ∀ j e, es[j]? = some e → ∃ g o, A = some ⟨g, o, none⟩ ∧ w.cell? ⟨g, o + j * 2, none⟩ = some (.int .i64 e.1) ∧ w.cell? ⟨g, o + j * 2 + 1, none⟩ = some (.int .i64 e.2) ∧ I64 e.1 ∧ I64 e.2
section
variable {w w' : World} {A : Option Addr} {n : Nat} {es : List Ed}
theorem RE.keep (h : RE w A n es) (hb : Below w.heap.size w w') : RE w' A n es :=
  ⟨h.len, fun j e he => let ⟨g, o, ha, h1, h2, h3⟩ := h.at_ j e he; ⟨g, o, ha, below_cell hb h1, below_cell hb h2, h3⟩⟩
theorem RE.drewN (h : RE w A n es) (q : Nat) : RE (w.drewN q) A n es := h.keep (below_drewn w q)
theorem RE.drawn (h : RE w A n es) (hd : Drawn w w') : RE w' A n es := h.keep hd.below
theorem RE.get (h : RE w A n es) {k : Nat} (hk : k < n) : ∃ g o, A = some ⟨g, o, none⟩ ∧ w.cell? ⟨g, o + k * 2, none⟩ = some (.int .i64 (nthE es k).1) ∧ w.cell? ⟨g, o + k * 2 + 1, none⟩ = some (.int .i64 (nthE es k).2) ∧ I64 (nthE es k).1 ∧ I64 (nthE es k).2 := by
  have hl : k < es.length := by rw [h.len]; exact hk
  rw [nthE_get hl]
  exact h.at_ k _ (List.getElem?_eq_getElem hl)
theorem RE.nil_ (w : World) (A : Option Addr) : RE w A 0 [] := ⟨rfl, fun j e h => by simp at h⟩
end
def upToE (xs ys : List Ed) (k : Nat) : Prop := ∀ j, j < k → nthE xs j = nthE ys j
/-! edges in memory of a call's own -/
def ecells : List Ed → List Value
  | [] => []
  | e :: r => .int .i64 e.1 :: .int .i64 e.2 :: ecells r
theorem ecells_len (es : List Ed) : (ecells es).length = es.length * 2 := by
  induction es with
  | nil => rfl
  | cons e r ih => simp [ecells, ih]; omega
theorem ecells_app (a b : List Ed) : ecells (a ++ b) = ecells a ++ ecells b := by
  induction a with
  | nil => rfl
  | cons e r ih => simp [ecells, ih]
theorem ecells_at {es : List Ed} {j : Nat} {e : Ed} (h : es[j]? = some e) : (ecells es)[j * 2]? = some (.int .i64 e.1) ∧ (ecells es)[j * 2 + 1]? = some (.int .i64 e.2) := by
  induction es generalizing j with
  | nil => simp at h
  | cons x r ih =>
    cases j with
    | zero => simp at h; subst h; simp [ecells]
    | succ j =>
      have h' : r[j]? = some e := by simpa using h
      obtain ⟨h1, h2⟩ := ih h'
      rw [show (j + 1) * 2 = j * 2 + 2 by omega]
      exact ⟨by simpa [ecells] using h1, by simpa [ecells] using h2⟩
theorem ecells_one (es : List Ed) : ∀ u ∈ ecells es, u.oneCell' = true := by
  induction es with
  | nil => intro u h; cases h
  | cons e r ih =>
    intro u h
    simp only [ecells, List.mem_cons] at h
    rcases h with rfl | rfl | h
    · rfl
    · rfl
    · exact ih u h
def All64E (es : List Ed) : Prop := ∀ e ∈ es, I64 e.1 ∧ I64 e.2
structure OE (w : World) (B : Nat) (ty : TypeId) (A : Option Addr) (n c : Nat) (es : List Ed) : Prop where
  os : OS w B ty 2 A n c (ecells es)
  all : All64E es
section
variable {w w' : World} {B : Nat} {ty : TypeId} {A : Option Addr} {n c : Nat} {es : List Ed}
theorem OE.nil_ (w : World) (B : Nat) (ty : TypeId) : OE w B ty none 0 0 [] := ⟨OS.nil_ w B ty 2, fun _ h => by cases h⟩
theorem OE.len (h : OE w B ty A n c es) : es.length = n := by have := h.os.len; rw [ecells_len] at this; omega
theorem OE.kept {r : Option Nat} (h : OE w B ty A n c es) (hg : w.grownBy w' r) (hne : blk A = none ∨ blk A ≠ r) : OE w' B ty A n c es := ⟨h.os.kept hg hne, h.all⟩
theorem OE.below (h : OE w B ty A n c es) (hb : Below w.heap.size w w') : OE w' B ty A n c es := ⟨h.os.below hb, h.all⟩
theorem OE.alloc (h : OE w B ty A n c es) (o : Obj) : OE (w.alloc o) B ty A n c es := ⟨h.os.alloc o, h.all⟩
theorem OE.more {B' : Nat} (h : OE w B ty A n c es) (hB : B' ≤ B) : OE w B' ty A n c es := ⟨h.os.more hB, h.all⟩
theorem OE.cell (h : OE w B ty A n c es) {k : Nat} (hk : k < n) : ∃ g, A = some ⟨g, 0, none⟩ ∧ w.cell? ⟨g, k * 2, none⟩ = some (.int .i64 (nthE es k).1) ∧ w.cell? ⟨g, k * 2 + 1, none⟩ = some (.int .i64 (nthE es k).2) ∧
    w.frozen? ⟨g, k * 2, none⟩ = false ∧ w.frozen? ⟨g, k * 2 + 1, none⟩ = false ∧ I64 (nthE es k).1 ∧ I64 (nthE es k).2 := by
  have hl : k < es.length := by rw [h.len]; exact hk
  have he : es[k]? = some (nthE es k) := by rw [nthE_get hl]; exact List.getElem?_eq_getElem hl
  obtain ⟨h1, h2⟩ := ecells_at he
  obtain ⟨g, ha, hc, hf⟩ := h.os.cell h1
  obtain ⟨g', ha', hc', hf'⟩ := h.os.cell h2
  obtain rfl : g = g' := by rw [ha] at ha'; injection ha' with ha'; injection ha'
  exact ⟨g, ha, hc, hc', hf, hf', h.all _ (List.mem_of_getElem? he)⟩
theorem OE.reads (h : OE w B ty A n c es) : RE w A n es := by
  refine ⟨h.len, fun j e he => ?_⟩
  obtain ⟨h1, h2⟩ := ecells_at he
  obtain ⟨g, ha, hc, hf⟩ := h.os.cell h1
  obtain ⟨g', ha', hc', hf'⟩ := h.os.cell h2
  obtain rfl : g = g' := by rw [ha] at ha'; injection ha' with ha'; injection ha'
  exact ⟨g, 0, ha, by rw [Nat.zero_add]; exact hc, by rw [Nat.zero_add]; exact hc', h.all e (List.mem_of_getElem? he)⟩
end
theorem edge_info : (Tryz.prog.info? 113).map (fun i => (i.zero, i.size, i.bytes)) = some (some (.agg #[.int .i64 0, .int .i64 0]), 2, 16) := by kernel_rfl
structure OG (w : World) (B D : Nat) (A : Option Addr) (n c : Nat) (F : Option Addr) (m d : Nat) (cs : List Int) (es : List Ed) : Prop where
  oi : OI w B 2 A n c cs
  oe : OE w B 113 F m d es
  la : ∀ b, blk A = some b → b < D
  lf : ∀ b, blk F = some b → b < D
structure RG (w : World) (A : Option Addr) (n : Nat) (F : Option Addr) (m : Nat) (cs : List Int) (es : List Ed) : Prop where
  ri : RI w A n cs
  re : RE w F m es
section
variable {w w' : World} {B D B' D' : Nat} {A F : Option Addr} {n c m d : Nat} {cs : List Int} {es : List Ed}
theorem RG.keep (h : RG w A n F m cs es) (hb : Below w.heap.size w w') : RG w' A n F m cs es := ⟨h.ri.keep hb, h.re.keep hb⟩
theorem OE.setLow {ty : TypeId} (h : OE w B ty F m d es) {p : Addr} (hp : p.block < B) (u : Value) : OE (w.setCell p u) B ty F m d es := ⟨h.os.setLow hp u, h.all⟩
theorem OG.reads (h : OG w B D A n c F m d cs es) : RG w A n F m cs es := ⟨h.oi.reads, h.oe.reads⟩
theorem OG.of (h : OI w B 2 A n c cs) (k : OE w B 113 F m d es) : OG w B w.heap.size A n c F m d cs es := ⟨h, k, fun _ hb => (h.os.lt hb).2, fun _ hb => (k.os.lt hb).2⟩
end
theorem grown_set {w : World} {g p : Nat} {u : Value} : w.grownBy (w.setCell ⟨g, p, none⟩ u) (some g) :=
  ⟨rfl, rfl, rfl, by simp [World.setCell], fun k _ hk => Below.heap_setCell _ _ _ _ (fun e => hk (by rw [e]))⟩
/-! marks -/
def RetG (w : World) (cs : List Int) (es : List Ed) (en : Ending) (w' : World) : Prop :=
  ∃ A n c F m d, en = .returned (.agg #[.slice A n c, .slice F m d]) ∧ OG w' w.heap.size w'.heap.size A n c F m d cs es ∧ Below w.heap.size w w'
def bools (m : Nat) (f : Nat → Bool) : List Value := (List.range m).map fun (b : Nat) => .bool (f b)
theorem bools_len (m : Nat) (f : Nat → Bool) : (bools m f).length = m := by simp [bools]
theorem bools_at {m : Nat} {f : Nat → Bool} {b : Nat} (h : b < m) : (bools m f)[b]? = some (.bool (f b)) := by simp [bools, h]
theorem bools_set {m : Nat} {f : Nat → Bool} {b : Nat} {x : Bool} : (bools m f).set b (.bool x) = bools m fun c => if c = b then x else f c := by
  apply List.ext_getElem?
  intro c
  rw [List.getElem?_set]
  by_cases hc : c < m
  · by_cases e : b = c
    · subst e
      rw [if_pos rfl, if_pos (by rw [bools_len]; exact hc), bools_at hc, if_pos rfl]
    · rw [if_neg e, bools_at hc, bools_at hc, if_neg (fun e' => e e'.symm)]
  · rw [List.getElem?_eq_none (l := bools m fun c => if c = b then x else f c) (by rw [bools_len]; omega), List.getElem?_eq_none (l := bools m f) (by rw [bools_len]; omega)]
    split
    · rw [if_neg (by rw [bools_len]; omega)]
    · rfl
theorem bools_false (m : Nat) : List.replicate m (Value.bool false) = bools m fun _ => false := by
  apply List.ext_getElem?
  intro c
  by_cases hc : c < m
  · rw [bools_at hc, List.getElem?_replicate, if_pos hc]
  · rw [List.getElem?_eq_none (by simp; omega), List.getElem?_eq_none (by rw [bools_len]; omega)]
theorem bools_congr {m : Nat} {f g : Nat → Bool} (h : ∀ b, b < m → f b = g b) : bools m f = bools m g := by
  unfold bools
  exact List.map_congr_left fun b hb => by rw [h b (by simpa using hb)]
structure TBv (w : World) (B : Nat) (eo eb : TypeId) (A : Option Addr) (n c : Nat) (vs : List Sl) (m : Nat) (f : Nat → Nat → Bool) : Prop where
  os : OS w B eo 1 A n c (vs.map slv)
  rows : ∀ (j : Nat) (v : Sl), vs[j]? = some v → v.2.1 = m ∧ OS w B eb 1 v.1 v.2.1 v.2.2 (bools m (f j))
  sep : ∀ (i j : Nat) (v u : Sl), i ≠ j → vs[i]? = some v → vs[j]? = some u → apart v u
  ne : eo ≠ eb
def TB (w : World) (B : Nat) (eo eb : TypeId) (A : Option Addr) (n c m : Nat) (f : Nat → Nat → Bool) : Prop := ∃ vs, TBv w B eo eb A n c vs m f
section
variable {w w' : World} {B : Nat} {eo eb : TypeId} {A : Option Addr} {n c m : Nat} {vs : List Sl} {f g : Nat → Nat → Bool}
theorem TBv.len (h : TBv w B eo eb A n c vs m f) : vs.length = n := by have := h.os.len; simpa using this
theorem TBv.outer_row (h : TBv w B eo eb A n c vs m f) {j : Nat} {v : Sl} (hv : vs[j]? = some v) : blk v.1 = none ∨ blk v.1 ≠ blk A := OS.typed (h.rows j v hv).2 h.os (fun e => h.ne e.symm)
theorem TBv.kept {r : Option Nat} (h : TBv w B eo eb A n c vs m f) (hg : w.grownBy w' r) (h0 : blk A = none ∨ blk A ≠ r) (hr : ∀ (j : Nat) (v : Sl), vs[j]? = some v → blk v.1 = none ∨ blk v.1 ≠ r) : TBv w' B eo eb A n c vs m f :=
  ⟨h.os.kept hg h0, fun j v hv => ⟨(h.rows j v hv).1, (h.rows j v hv).2.kept hg (hr j v hv)⟩, h.sep, h.ne⟩
theorem TBv.below (h : TBv w B eo eb A n c vs m f) (hb : Below w.heap.size w w') : TBv w' B eo eb A n c vs m f :=
  h.kept (r := none) (grownBy_of_below hb none) (by cases A <;> simp [blk]) (fun j v _ => by obtain ⟨a, b, c⟩ := v; cases a <;> simp [blk])
theorem TB.below (h : TB w B eo eb A n c m f) (hb : Below w.heap.size w w') : TB w' B eo eb A n c m f := by
  obtain ⟨vs, h⟩ := h
  exact ⟨vs, h.below hb⟩
theorem TB.more {B' : Nat} (h : TB w B eo eb A n c m f) (hB : B' ≤ B) : TB w B' eo eb A n c m f := by
  obtain ⟨vs, h⟩ := h
  exact ⟨vs, h.os.more hB, fun j v hv => ⟨(h.rows j v hv).1, (h.rows j v hv).2.more hB⟩, h.sep, h.ne⟩
theorem TB.of_own (h : OS w B eo 1 A 0 c []) (hne : eo ≠ eb) : TB w B eo eb A 0 c m f :=
  ⟨[], h, fun j v h => by simp at h, fun i j v u _ h => by simp at h, hne⟩
theorem TB.cap (h : TB w B eo eb A n c m f) : n ≤ c ∧ c ≤ 9223372036854775807 := by obtain ⟨vs, h⟩ := h; exact h.os.cap
theorem TBv.get (h : TBv w B eo eb A n c vs m f) {k : Nat} (hk : k < n) : ∃ g v, A = some ⟨g, 0, none⟩ ∧ vs[k]? = some v ∧ w.cell? ⟨g, k, none⟩ = some (.slice v.1 m v.2.2) ∧ m ≤ v.2.2 ∧ v.2.2 ≤ 9223372036854775807 ∧
    (∀ b, b < m → ∃ r, v.1 = some ⟨r, 0, none⟩ ∧ w.cell? ⟨r, b, none⟩ = some (.bool (f k b)) ∧ w.frozen? ⟨r, b, none⟩ = false ∧ B ≤ r ∧ r < w.heap.size) := by
  have hj : k < vs.length := by rw [h.len]; exact hk
  have hv := List.getElem?_eq_getElem hj
  obtain ⟨g, ha, hc, hf⟩ := h.os.cell (j := k) (u := slv vs[k]) (by rw [List.getElem?_map, hv]; rfl)
  obtain ⟨e, ho⟩ := h.rows k _ hv
  refine ⟨g, vs[k], ha, hv, ?_, ?_, ho.cap.2, fun b hb => ?_⟩
  · rw [hc]; unfold slv; rw [e]
  · have := ho.cap.1; omega
  · obtain ⟨r, hr, hcr, hfr⟩ := ho.cell (bools_at hb)
    have := ho.lt (k := r) (by rw [hr]; rfl)
    exact ⟨r, hr, hcr, hfr, this.1, this.2⟩
theorem TBv.set (h : TBv w B eo eb A n c vs m f) {k : Nat} {v : Sl} {r : Nat} (hv : vs[k]? = some v) (hr : v.1 = some ⟨r, 0, none⟩) (b : Nat) (x : Bool) :
    TBv (w.setCell ⟨r, b, none⟩ (.bool x)) B eo eb A n c vs m (fun a d => if a = k ∧ d = b then x else f a d) := by
  have hg : w.grownBy (w.setCell ⟨r, b, none⟩ (.bool x)) (blk v.1) := by rw [hr]; exact grown_set
  have hou := h.outer_row hv
  refine ⟨h.os.kept hg ?_, fun j u hu => ⟨(h.rows j u hu).1, ?_⟩, h.sep, h.ne⟩
  · rcases hou with h1 | h1
    · rw [hr] at h1; cases h1
    · exact .inr fun e => h1 e.symm
  · by_cases e : j = k
    · subst e
      rw [hv] at hu
      injection hu with hu
      subst hu
      have ho := (h.rows j v hv).2
      obtain ⟨v1, v2, v3⟩ := v
      simp only at hr
      subst hr
      have := ho.set b (.bool x)
      rw [bools_set] at this
      rwa [bools_congr (g := fun d => if j = j ∧ d = b then x else f j d) fun d _ => by simp] at this
    · have ho := (h.rows j u hu).2.kept hg (h.sep j k u v e hu hv)
      rwa [bools_congr (g := fun d => if j = k ∧ d = b then x else f j d) fun d _ => by simp [e]] at ho
theorem TBv.push (h : TBv w B eo eb A n c vs m f) {v : Sl} (hm : v.2.1 = m) (ho : OS w B eb 1 v.1 v.2.1 v.2.2 (bools m (f n))) (hap : ∀ (j : Nat) (u : Sl), vs[j]? = some u → apart u v)
    {A' : Option Addr} {c' : Nat} (hg : w.grownBy w' (blk A)) (hos : OS w' B eo 1 A' (n + 1) c' (vs.map slv ++ [.slice v.1 v.2.1 v.2.2])) : TB w' B eo eb A' (n + 1) c' m f := by
  have hvA : blk v.1 = none ∨ blk v.1 ≠ blk A := OS.typed ho h.os (fun e => h.ne e.symm)
  have hlen := h.len
  refine ⟨vs ++ [v], by simpa [slv] using hos, fun j u hu => ?_, fun i j u x hij hu hx => ?_, h.ne⟩
  · rw [List.getElem?_append] at hu
    split at hu
    · exact ⟨(h.rows j u hu).1, (h.rows j u hu).2.kept hg (h.outer_row hu)⟩
    · have hj := (List.getElem?_eq_some_iff.1 hu).1
      simp at hj
      have e : j = n := by omega
      rw [e, hlen, Nat.sub_self] at hu
      simp at hu
      subst hu
      subst e
      exact ⟨hm, ho.kept hg hvA⟩
  · rw [List.getElem?_append] at hu hx
    split at hu
    · split at hx
      · exact h.sep i j u x hij hu hx
      · have : x = v := by simpa using List.mem_of_getElem? hx
        subst this
        exact hap i u hu
    · have hu' : u = v := by simpa using List.mem_of_getElem? hu
      subst hu'
      split at hx
      · exact (hap j x hx).symm
      · have a1 := (List.getElem?_eq_some_iff.1 hu).1
        have a2 := (List.getElem?_eq_some_iff.1 hx).1
        simp at a1 a2
        omega
theorem TBv.apart_new (h : TBv w B eo eb A n c vs m f) {v : Sl} (hn : ∀ b, blk v.1 = some b → w.heap.size ≤ b) : ∀ (j : Nat) (u : Sl), vs[j]? = some u → apart u v := fun j u hu => by
  unfold apart
  cases hb : blk u.1 with
  | none => exact .inl rfl
  | some b =>
    refine .inr fun e => ?_
    have h1 := ((h.rows j u hu).2.lt hb).2
    have h2 := hn b e.symm
    omega
end
end Go.Proofs.YtdkbcjdimhgmnaaGreat
