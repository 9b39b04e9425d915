/- Permutations as lists, and automorphisms of graphs, plain. No program in sight. -/
import Derived.Test.YtncknfhfkmmhbaaGreatZBG
set_option linter.unusedVariables false
set_option linter.unusedSimpArgs false
namespace Go.Proofs.YtncknfhfkmmhbaaGreat

theorem nbB_symm (es : List Ed) (a b : Nat) : nbB es a b = nbB es b a := by
  unfold nbB
  congr 1
  funext e
  rw [Bool.or_comm]
theorem relB_symm (es : List Ed) (p : List Int) (a b : Nat) : relB es p a b = relB es p b a := by
  unfold relB
  congr 1
  funext e
  rw [Bool.or_comm]
  simp only [Bool.and_comm]
theorem relB_nb {n : Nat} {es : List Ed} {p : List Int} (h : EdgesOk n es) (hp : Perm p) (hl : p.length = n) {x y : Nat} (hx : x < n) (hy : y < n) : relB es p (nth p x).toNat (nth p y).toNat = nbB es x y := by
  have bx := perm_lt hp (v := x) (by omega)
  have bY := perm_lt hp (v := y) (by omega)
  unfold relB nbB
  rw [Bool.eq_iff_iff, List.any_eq_true, List.any_eq_true]
  refine exists_congr fun e => and_congr_right fun he => ?_
  obtain ⟨h1, h2, h3⟩ := h.edge e he
  have i1 : ∀ {u : Nat}, u < n → (nth p e.1.toNat = nth p u ↔ e.1 = (u : Int)) := fun {u} hu => ⟨fun q => by have := perm_inj hp (by omega) (by omega) q; omega, fun q => by rw [q]; simp⟩
  have i2 : ∀ {u : Nat}, u < n → (nth p e.2.toNat = nth p u ↔ e.2 = (u : Int)) := fun {u} hu => ⟨fun q => by have := perm_inj hp (by omega) (by omega) q; omega, fun q => by rw [q]; simp⟩
  simp only [Bool.or_eq_true, Bool.and_eq_true, beq_iff_eq, bx.2, bY.2, i1 hx, i1 hy, i2 hx, i2 hy]
  constructor
  · rintro (⟨a, b⟩ | ⟨a, b⟩)
    · exact .inl ⟨a, b⟩
    · exact .inr ⟨b, a⟩
  · rintro (⟨a, b⟩ | ⟨a, b⟩)
    · exact .inl ⟨a, b⟩
    · exact .inr ⟨b, a⟩
theorem relE_mem {n : Nat} {es : List Ed} {p : List Int} (h : EdgesOk n es) (hp : Perm p) (hl : p.length = n) {a b : Nat} (hab : a < b) (hb : b < n) : ((a : Int), (b : Int)) ∈ relE es p ↔ relB es p a b = true := by
  rw [relE_tab h hp hl, tabE_mem]
  constructor
  · rintro ⟨a', b', e, _, _, h3⟩
    have e1 : a = a' := by have := congrArg Prod.fst e; simp at this; omega
    have e2 : b = b' := by have := congrArg Prod.snd e; simp at this; omega
    rw [e1, e2]; exact h3
  · intro h3
    exact ⟨a, b, rfl, hab, hb, h3⟩
theorem edges_tab {n : Nat} {es : List Ed} (h : EdgesOk n es) : es = tabE n (nbB es) := by
  refine strict_unique cmpE_ord h.strict (tabE_strict _ _) fun e => ?_
  rw [tabE_mem]
  constructor
  · intro he
    obtain ⟨h1, h2, h3⟩ := h.edge e he
    refine ⟨e.1.toNat, e.2.toNat, Prod.ext (by simp only []; omega) (by simp only []; omega), by omega, by omega, List.any_eq_true.2 ⟨e, he, ?_⟩⟩
    simp
    left
    omega
  · rintro ⟨a, b, rfl, h1, h2, h3⟩
    obtain ⟨e, he, hq⟩ := List.any_eq_true.1 h3
    have h4 := h.edge e he
    simp at hq
    rcases hq with ⟨q1, q2⟩ | ⟨q1, q2⟩
    · rw [← q1, ← q2]; exact he
    · omega
theorem tabE_congr {n : Nat} {f g : Nat → Nat → Bool} (h : ∀ a b, a < b → b < n → f a b = g a b) : tabE n f = tabE n g := by
  refine strict_unique cmpE_ord (tabE_strict _ _) (tabE_strict _ _) fun e => ?_
  rw [tabE_mem, tabE_mem]
  refine exists_congr fun a => exists_congr fun b => and_congr_right fun _ => ?_
  constructor
  · rintro ⟨h1, h2, h3⟩; exact ⟨h1, h2, by rw [← h a b h1 h2]; exact h3⟩
  · rintro ⟨h1, h2, h3⟩; exact ⟨h1, h2, by rw [h a b h1 h2]; exact h3⟩
theorem nbB_irrefl {n : Nat} {es : List Ed} (h : EdgesOk n es) (a : Nat) : nbB es a a = false := by
  cases hb : nbB es a a with
  | false => rfl
  | true =>
    obtain ⟨e, he, hq⟩ := List.any_eq_true.1 hb
    have h4 := h.edge e he
    simp at hq
    omega
/-- two relabeled graphs are one just if the tables are -/
theorem relE_same {n : Nat} {es fs : List Ed} {p q : List Int} (h : EdgesOk n es) (k : EdgesOk n fs) (hp : Perm p) (hl : p.length = n) (hq : Perm q) (hm : q.length = n) :
    relE es p = relE fs q ↔ ∀ x y x' y', x < n → y < n → x' < n → y' < n → nth p x = nth q x' → nth p y = nth q y' → nbB es x y = nbB fs x' y' := by
  constructor
  · intro he x y x' y' hx hy hx' hy' ex ey
    have bx := perm_lt hp (v := x) (by omega)
    have bY := perm_lt hp (v := y) (by omega)
    rw [← relB_nb h hp hl hx hy, ← relB_nb k hq hm hx' hy', ← ex, ← ey]
    rcases Nat.lt_trichotomy (nth p x).toNat (nth p y).toNat with h1 | h1 | h1
    · rw [Bool.eq_iff_iff, ← relE_mem h hp hl h1 (by omega), ← relE_mem k hq hm h1 (by omega), he]
    · have e : x = y := perm_inj hp (by omega) (by omega) (by omega)
      subst e
      have e' : x' = y' := perm_inj hq (by omega) (by omega) (by rw [← ex, ← ey])
      subst e'
      rw [relB_nb h hp hl hx hx, ex, relB_nb k hq hm hx' hx', nbB_irrefl h, nbB_irrefl k]
    · rw [relB_symm es, relB_symm fs, Bool.eq_iff_iff, ← relE_mem h hp hl h1 (by omega), ← relE_mem k hq hm h1 (by omega), he]
  · intro hh
    rw [relE_tab h hp hl, relE_tab k hq hm]
    refine tabE_congr fun a b hab hb => ?_
    obtain ⟨x, hx, ex⟩ := perm_surj hp (i := a) (by omega)
    obtain ⟨y, hy, ey⟩ := perm_surj hp (i := b) (by omega)
    obtain ⟨x', hx', ex'⟩ := perm_surj hq (i := a) (by omega)
    obtain ⟨y', hy', ey'⟩ := perm_surj hq (i := b) (by omega)
    have := hh x y x' y' (by omega) (by omega) (by omega) (by omega) (by rw [ex, ex']) (by rw [ey, ey'])
    rw [← relB_nb h hp hl (by omega) (by omega), ← relB_nb k hq hm (by omega) (by omega), ex, ey, ex', ey'] at this
    simpa using this
theorem relC_same {n : Nat} {cs ds p q : List Int} (hc : cs.length = n) (hd : ds.length = n) (hp : Perm p) (hl : p.length = n) (hq : Perm q) (hm : q.length = n) :
    relC cs p = relC ds q ↔ ∀ x x', x < n → x' < n → nth p x = nth q x' → nth cs x = nth ds x' := by
  constructor
  · intro he x x' hx hx' e
    rw [← relC_nth hp (by omega) (v := x) (by omega), ← relC_nth hq (by omega) (v := x') (by omega), he, e]
  · intro hh
    refine nth_ext (by rw [relC_len, relC_len]; omega) fun k hk => ?_
    rw [relC_len] at hk
    obtain ⟨x, hx, ex⟩ := perm_surj hp (i := k) (by omega)
    obtain ⟨x', hx', ex'⟩ := perm_surj hq (i := k) (by omega)
    have := hh x x' (by omega) (by omega) (by rw [ex, ex'])
    rw [← relC_nth hp (by omega) (v := x) (by omega), ← relC_nth hq (by omega) (v := x') (by omega), ex, ex'] at this
    simpa using this
theorem relE_iota {n : Nat} {es : List Ed} (h : EdgesOk n es) : relE es (iotaP n) = es := by
  rw [relE_tab h (iotaP_perm n) (iotaP_len n)]
  conv => rhs; rw [edges_tab h]
  refine tabE_congr fun a b hab hb => ?_
  have := relB_nb h (iotaP_perm n) (iotaP_len n) (x := a) (y := b) (by omega) (by omega)
  rw [iotaP_nth (by omega), iotaP_nth (by omega)] at this
  simpa using this
theorem relC_iota (cs : List Int) : relC cs (iotaP cs.length) = cs := by
  refine nth_ext (relC_len _ _) fun k hk => ?_
  rw [relC_len] at hk
  have := relC_nth (iotaP_perm cs.length) (iotaP_len _) (v := k) hk
  rwa [iotaP_nth hk] at this
/-- an automorphism: it keeps the colors and the neighbors -/
structure Aut (cs : List Int) (es : List Ed) (s : List Int) : Prop where
  perm : Perm s
  len : s.length = cs.length
  col : ∀ v, v < cs.length → nth cs (nth s v).toNat = nth cs v
  nb : ∀ x y, x < cs.length → y < cs.length → nbB es (nth s x).toNat (nth s y).toNat = nbB es x y
theorem aut_iff {cs : List Int} {es : List Ed} (h : EdgesOk cs.length es) {s : List Int} (hs : Perm s) (hl : s.length = cs.length) : (relC cs s = cs ∧ relE es s = es) ↔ Aut cs es s := by
  have e1 := relC_same (cs := cs) (ds := cs) rfl rfl hs hl (iotaP_perm cs.length) (iotaP_len _)
  have e2 := relE_same h h hs hl (iotaP_perm cs.length) (iotaP_len _)
  rw [relC_iota] at e1
  rw [relE_iota h] at e2
  rw [e1, e2]
  constructor
  · rintro ⟨h1, h2⟩
    refine ⟨hs, hl, fun v hv => ?_, fun x y hx hy => ?_⟩
    · have b := perm_lt hs (v := v) (by omega)
      exact (h1 v (nth s v).toNat hv (by omega) (by rw [iotaP_nth (by omega)]; omega)).symm
    · have b := perm_lt hs (v := x) (by omega)
      have b' := perm_lt hs (v := y) (by omega)
      exact (h2 x y (nth s x).toNat (nth s y).toNat hx hy (by omega) (by omega) (by rw [iotaP_nth (by omega)]; omega) (by rw [iotaP_nth (by omega)]; omega)).symm
  · intro ha
    refine ⟨fun x x' hx hx' e => ?_, fun x y x' y' hx hy hx' hy' ex ey => ?_⟩
    · rw [iotaP_nth hx'] at e
      rw [← ha.col x hx, e]; simp
    · rw [iotaP_nth hx'] at ex
      rw [iotaP_nth hy'] at ey
      rw [← ha.nb x y hx hy, ex, ey]; simp
end Go.Proofs.YtncknfhfkmmhbaaGreat
