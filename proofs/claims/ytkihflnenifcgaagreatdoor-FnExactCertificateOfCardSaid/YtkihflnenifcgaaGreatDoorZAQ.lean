/- Different leaves of the search are different, plain. No program in sight. -/
import Derived.Test.YtkihflnenifcgaaGreatDoorZAP
set_option linter.unusedVariables false
set_option linter.unusedSimpArgs false
namespace Go.Proofs.YtkihflnenifcgaaGreatDoor

/-! different leaves are different -/
theorem idxG_lt {α : Type} {c : α → α → Int} (h : TOrd c) {l : List α} (hl : StrictL c l) {x y : α} (hx : x ∈ l) (hy : y ∈ l) (hxy : c x y < 0) : idxG c l x < idxG c l y := by
  obtain ⟨h1, h2⟩ := idxG_mem h hl hx
  obtain ⟨h3, h4⟩ := idxG_mem h hl hy
  rcases Nat.lt_trichotomy (idxG c l x) (idxG c l y) with h5 | h5 | h5
  · exact h5
  · rw [idxG_inj h hl hx hy h5] at hxy
    have := h.self y
    omega
  · have hp := List.pairwise_iff_getElem.1 hl _ _ h3 h1 h5
    rw [List.getElem?_eq_getElem h1] at h2
    rw [List.getElem?_eq_getElem h3] at h4
    injection h2 with h2
    injection h4 with h4
    rw [h2, h4] at hp
    have := h.swap x y
    omega
theorem roundP_order {near : List (List Int)} {cells : List Int} {u v : Nat} (hu : u < cells.length) (hv : v < cells.length) (h : nth cells u < nth cells v) : nth (roundP near cells) u < nth (roundP near cells) v := by
  rw [roundP_nth hu, roundP_nth hv]
  have : cmpL (keyP near cells u) (keyP near cells v) < 0 := by
    unfold keyP
    rw [cmpL, if_pos h]
    omega
  have := idxG_lt cmpL_ord kindsP_strict (kindsP_mem (near := near) hu) (kindsP_mem (near := near) hv) this
  omega
theorem refF_order (near : List (List Int)) : ∀ (f : Nat) (cells : List Int) (u v : Nat), u < cells.length → v < cells.length → nth cells u < nth cells v → nth (refF near f cells) u < nth (refF near f cells) v
  | 0, cells, u, v, hu, hv, h => roundP_order hu hv h
  | f + 1, cells, u, v, hu, hv, h => by
    rw [refF]
    split
    · exact roundP_order hu hv h
    · exact refF_order near f _ u v (by rw [roundP_len]; exact hu) (by rw [roundP_len]; exact hv) (roundP_order hu hv h)
theorem refP_order {near : List (List Int)} {cells : List Int} {u v : Nat} (hu : u < cells.length) (hv : v < cells.length) (h : nth cells u < nth cells v) : nth (refP near cells) u < nth (refP near cells) v := refF_order near _ cells u v hu hv h
/-- p keeps the order of the cells -/
def Fine (n : Nat) (cells p : List Int) : Prop := ∀ u v, u < n → v < n → nth cells u < nth cells v → nth p u < nth p v
theorem Fine.self (n : Nat) (cells : List Int) : Fine n cells cells := fun _ _ _ _ h => h
theorem Fine.ref {n : Nat} {near : List (List Int)} {cells p : List Int} (hl : cells.length = n) (h : Fine n (refP near cells) p) : Fine n cells p := fun u v hu hv hlt =>
  h u v hu hv (refP_order (by omega) (by omega) hlt)
theorem Fine.split {n : Nat} {cells p : List Int} {v : Nat} (hl : cells.length = n) (h : Fine n (splitP cells v) p) : Fine n cells p := fun a b ha hb hlt => by
  refine h a b ha hb ?_
  rw [splitP_nth (by omega), splitP_nth (by omega)]
  split <;> split <;> rename_i h1 h2
  · subst h1; subst h2; omega
  · subst h1; omega
  · subst h2; omega
  · omega
theorem Fine.first {n : Nat} {cells p : List Int} {v u : Nat} (hl : cells.length = n) (hv : v < n) (hu : u < n) (hne : u ≠ v) (he : nth cells u = nth cells v) (h : Fine n (splitP cells v) p) : nth p v < nth p u := by
  refine h v u hv hu ?_
  rw [splitP_nth (by omega), splitP_nth (by omega), if_pos rfl, if_neg hne, he]
  omega
/-- the rows of the one are rows of the other and of new ones, which keep the order of the cells and are different -/
def Grows (n : Nat) (P : List Int → Prop) (s t : St) : Prop := ∃ L : List (List Int), t.best.Sublist (s.best ++ L) ∧ L.Nodup ∧ ∀ p ∈ L, P p
theorem Grows.refl (n : Nat) (P : List Int → Prop) (s : St) : Grows n P s s := ⟨[], by simp, by simp, fun _ h => by cases h⟩
theorem leafP_grows {n : Nat} {cs : List Int} {es : List Ed} {s : St} {p : List Int} : Grows n (fun q => q = p) s (leafP cs es s p) := by
  refine ⟨[p], ?_, by simp, fun q hq => List.mem_singleton.1 hq⟩
  unfold leafP
  simp only []
  split
  · exact List.sublist_append_right _ _
  · split
    · exact List.Sublist.refl _
    · exact List.sublist_append_left _ _
theorem loopP_grows {n : Nat} {near : List (List Int)} {sub : St → List Int → St} {cells : List Int} {f : Nat} {t : Int} (hn : cells.length = n)
    (hsub : ∀ s c, s.left < f → Cells n c → Kept1 n s (sub s c) ∧ Grows n (Fine n c) s (sub s c)) : ∀ (vs : List Int) (s : St), s.left ≤ f → (∀ x ∈ vs, ∃ v : Nat, x = v ∧ v < n ∧ nth cells v = t) → vs.Nodup →
      Grows n (fun p => Fine n cells p ∧ ∃ v : Nat, (v : Int) ∈ vs ∧ Fine n (splitP cells v) p) s (loopP near sub cells vs s)
  | [], s, _, _, _ => Grows.refl _ _ s
  | x :: r, s, hl, hx, hnd => by
    rw [loopP]
    by_cases h1 : s.spent = true
    · rw [if_pos h1]; exact Grows.refl _ _ s
    · rw [if_neg h1]
      by_cases h2 : s.left = 0
      · rw [if_pos h2]; exact Grows.refl n _ s
      · rw [if_neg h2]
        have hc : Cells n (refP near (splitP cells x.toNat)) := by
          have := refP_cells near (splitP cells x.toNat)
          rwa [splitP_len, hn] at this
        obtain ⟨hk, L1, g1, g2, g3⟩ := hsub { s with left := s.left - 1, nodes := s.nodes + 1 } _ (by simp only []; omega) hc
        obtain ⟨v, rfl, hv, hvt⟩ := hx x List.mem_cons_self
        have hle := hk.left
        generalize sub { s with left := s.left - 1, nodes := s.nodes + 1 } (refP near (splitP cells (v : Int).toNat)) = q at *
        simp only [] at g1 hle
        have hnd' := List.nodup_cons.1 hnd
        obtain ⟨L2, j1, j2, j3⟩ := loopP_grows hn hsub r q (by omega) (fun y hy => hx y (List.mem_cons_of_mem _ hy)) hnd'.2
        refine ⟨L1 ++ L2, j1.trans ?_, ?_, fun p hp => ?_⟩
        · rw [← List.append_assoc]
          exact g1.append_right L2
        · refine List.nodup_append.2 ⟨g2, j2, fun a ha b hb hab => ?_⟩
          subst hab
          have f1 : Fine n (splitP cells v) a := Fine.ref (by rw [splitP_len, hn]) (g3 a ha)
          obtain ⟨_, u, hu, f2⟩ := j3 a hb
          obtain ⟨u', e, hu', hut⟩ := hx u (List.mem_cons_of_mem _ hu)
          have e : u = u' := by omega
          subst e
          have hne : u ≠ v := fun e => hnd'.1 (by rw [← e]; exact hu)
          have k1 := f1.first hn hv hu' hne (hut.trans hvt.symm)
          have k2 := f2.first hn hu' hv (fun e => hne e.symm) (hvt.trans hut.symm)
          omega
        · rcases List.mem_append.1 hp with hp | hp
          · have f1 : Fine n (splitP cells v) p := Fine.ref (by rw [splitP_len, hn]) (g3 p hp)
            exact ⟨f1.split hn, v, List.mem_cons_self, f1⟩
          · obtain ⟨f0, u, hu, f2⟩ := j3 p hp
            exact ⟨f0, u, List.mem_cons_of_mem _ hu, f2⟩
theorem vertsP_nodup (cells : List Int) (t : Int) : (vertsP cells t).Nodup := by
  unfold vertsP vF
  rw [List.Nodup, List.pairwise_map, List.drop_zero]
  exact (List.pairwise_lt_range.filter _).imp fun h => by omega
theorem searchP_grows {n : Nat} (cs : List Int) (es : List Ed) (near : List (List Int)) : ∀ (f : Nat) (s : St) (cells : List Int), s.left ≤ f → Cells n cells → Grows n (Fine n cells) s (searchP cs es near f s cells)
  | 0, s, cells, hl, hc => by
    rw [searchP]
    split
    · obtain ⟨L, h1, h2, h3⟩ := leafP_grows (n := n) (cs := cs) (es := es) (s := s) (p := cells)
      exact ⟨L, h1, h2, fun p hp => by rw [h3 p hp]; exact Fine.self _ _⟩
    · obtain ⟨L, h1, h2, h3⟩ := loopP_grows (n := n) (near := near) (f := 0) (sub := fun s _ => s) (t := tgtP cells) hc.len (fun s c h _ => absurd h (by omega)) (vertsP cells (tgtP cells)) s hl
        (fun x hx => by obtain ⟨v, e, h4, h5⟩ := vertsP_mem hx; exact ⟨v, e, by rw [← hc.len]; exact h4, h5⟩) (vertsP_nodup _ _)
      exact ⟨L, h1, h2, fun p hp => (h3 p hp).1⟩
  | f + 1, s, cells, hl, hc => by
    rw [searchP]
    split
    · obtain ⟨L, h1, h2, h3⟩ := leafP_grows (n := n) (cs := cs) (es := es) (s := s) (p := cells)
      exact ⟨L, h1, h2, fun p hp => by rw [h3 p hp]; exact Fine.self _ _⟩
    · obtain ⟨L, h1, h2, h3⟩ := loopP_grows (n := n) (near := near) (f := f + 1) (sub := searchP cs es near f) (t := tgtP cells) hc.len (fun s c h hc' => ⟨searchP_kept cs es near f s c (by omega) hc', searchP_grows cs es near f s c (by omega) hc'⟩) (vertsP cells (tgtP cells)) s hl
        (fun x hx => by obtain ⟨v, e, h4, h5⟩ := vertsP_mem hx; exact ⟨v, e, by rw [← hc.len]; exact h4, h5⟩) (vertsP_nodup _ _)
      exact ⟨L, h1, h2, fun p hp => (h3 p hp).1⟩
theorem runP_nodup (cs : List Int) (es : List Ed) (b : Nat) : (runP cs es b).best.Nodup := by
  obtain ⟨L, h1, h2, _⟩ := searchP_grows cs es (nearP cs.length es) b ⟨b, false, 0, 0, [], [], []⟩ _ (Nat.le_refl _) (refP_cells (nearP cs.length es) cs)
  rw [List.nil_append] at h1
  exact List.Sublist.nodup h1 h2
end Go.Proofs.YtkihflnenifcgaaGreatDoor
/- Permutations as lists, and automorphisms of graphs, plain. No program in sight. -/
namespace Go.Proofs.YtkihflnenifcgaaGreatDoor

theorem nbB_symm (es : List Ed) (a b : Nat) : nbB es a b = nbB es b a := by
  unfold nbB
  congr 1
  funext e
  rw [Bool.or_comm]
theorem relB_symm (es : List Ed) (p : List Int) (a b : Nat) : relB es p a b = relB es p b a := by
  unfold relB
  congr 1
  funext e
  rw [Bool.or_comm]
  simp only [Bool.and_comm]
theorem relB_nb {n : Nat} {es : List Ed} {p : List Int} (h : EdgesOk n es) (hp : Perm p) (hl : p.length = n) {x y : Nat} (hx : x < n) (hy : y < n) : relB es p (nth p x).toNat (nth p y).toNat = nbB es x y := by
  have bx := perm_lt hp (v := x) (by omega)
  have bY := perm_lt hp (v := y) (by omega)
  unfold relB nbB
  rw [Bool.eq_iff_iff, List.any_eq_true, List.any_eq_true]
  refine exists_congr fun e => and_congr_right fun he => ?_
  obtain ⟨h1, h2, h3⟩ := h.edge e he
  have i1 : ∀ {u : Nat}, u < n → (nth p e.1.toNat = nth p u ↔ e.1 = (u : Int)) := fun {u} hu => ⟨fun q => by have := perm_inj hp (by omega) (by omega) q; omega, fun q => by rw [q]; simp⟩
  have i2 : ∀ {u : Nat}, u < n → (nth p e.2.toNat = nth p u ↔ e.2 = (u : Int)) := fun {u} hu => ⟨fun q => by have := perm_inj hp (by omega) (by omega) q; omega, fun q => by rw [q]; simp⟩
  simp only [Bool.or_eq_true, Bool.and_eq_true, beq_iff_eq, bx.2, bY.2, i1 hx, i1 hy, i2 hx, i2 hy]
  constructor
  · rintro (⟨a, b⟩ | ⟨a, b⟩)
    · exact .inl ⟨a, b⟩
    · exact .inr ⟨b, a⟩
  · rintro (⟨a, b⟩ | ⟨a, b⟩)
    · exact .inl ⟨a, b⟩
    · exact .inr ⟨b, a⟩
theorem relE_mem {n : Nat} {es : List Ed} {p : List Int} (h : EdgesOk n es) (hp : Perm p) (hl : p.length = n) {a b : Nat} (hab : a < b) (hb : b < n) : ((a : Int), (b : Int)) ∈ relE es p ↔ relB es p a b = true := by
  rw [relE_tab h hp hl, tabE_mem]
  constructor
  · rintro ⟨a', b', e, _, _, h3⟩
    have e1 : a = a' := by have := congrArg Prod.fst e; simp at this; omega
    have e2 : b = b' := by have := congrArg Prod.snd e; simp at this; omega
    rw [e1, e2]; exact h3
  · intro h3
    exact ⟨a, b, rfl, hab, hb, h3⟩
theorem edges_tab {n : Nat} {es : List Ed} (h : EdgesOk n es) : es = tabE n (nbB es) := by
  refine strict_unique cmpE_ord h.strict (tabE_strict _ _) fun e => ?_
  rw [tabE_mem]
  constructor
  · intro he
    obtain ⟨h1, h2, h3⟩ := h.edge e he
    refine ⟨e.1.toNat, e.2.toNat, Prod.ext (by simp only []; omega) (by simp only []; omega), by omega, by omega, List.any_eq_true.2 ⟨e, he, ?_⟩⟩
    simp
    left
    omega
  · rintro ⟨a, b, rfl, h1, h2, h3⟩
    obtain ⟨e, he, hq⟩ := List.any_eq_true.1 h3
    have h4 := h.edge e he
    simp at hq
    rcases hq with ⟨q1, q2⟩ | ⟨q1, q2⟩
    · rw [← q1, ← q2]; exact he
    · omega
theorem tabE_congr {n : Nat} {f g : Nat → Nat → Bool} (h : ∀ a b, a < b → b < n → f a b = g a b) : tabE n f = tabE n g := by
  refine strict_unique cmpE_ord (tabE_strict _ _) (tabE_strict _ _) fun e => ?_
  rw [tabE_mem, tabE_mem]
  refine exists_congr fun a => exists_congr fun b => and_congr_right fun _ => ?_
  constructor
  · rintro ⟨h1, h2, h3⟩; exact ⟨h1, h2, by rw [← h a b h1 h2]; exact h3⟩
  · rintro ⟨h1, h2, h3⟩; exact ⟨h1, h2, by rw [h a b h1 h2]; exact h3⟩
theorem nbB_irrefl {n : Nat} {es : List Ed} (h : EdgesOk n es) (a : Nat) : nbB es a a = false := by
  cases hb : nbB es a a with
  | false => rfl
  | true =>
    obtain ⟨e, he, hq⟩ := List.any_eq_true.1 hb
    have h4 := h.edge e he
    simp at hq
    omega
/-- two relabeled graphs are one just if the tables are -/
theorem relE_same {n : Nat} {es fs : List Ed} {p q : List Int} (h : EdgesOk n es) (k : EdgesOk n fs) (hp : Perm p) (hl : p.length = n) (hq : Perm q) (hm : q.length = n) :
    relE es p = relE fs q ↔ ∀ x y x' y', x < n → y < n → x' < n → y' < n → nth p x = nth q x' → nth p y = nth q y' → nbB es x y = nbB fs x' y' := by
  constructor
  · intro he x y x' y' hx hy hx' hy' ex ey
    have bx := perm_lt hp (v := x) (by omega)
    have bY := perm_lt hp (v := y) (by omega)
    rw [← relB_nb h hp hl hx hy, ← relB_nb k hq hm hx' hy', ← ex, ← ey]
    rcases Nat.lt_trichotomy (nth p x).toNat (nth p y).toNat with h1 | h1 | h1
    · rw [Bool.eq_iff_iff, ← relE_mem h hp hl h1 (by omega), ← relE_mem k hq hm h1 (by omega), he]
    · have e : x = y := perm_inj hp (by omega) (by omega) (by omega)
      subst e
      have e' : x' = y' := perm_inj hq (by omega) (by omega) (by rw [← ex, ← ey])
      subst e'
      rw [relB_nb h hp hl hx hx, ex, relB_nb k hq hm hx' hx', nbB_irrefl h, nbB_irrefl k]
    · rw [relB_symm es, relB_symm fs, Bool.eq_iff_iff, ← relE_mem h hp hl h1 (by omega), ← relE_mem k hq hm h1 (by omega), he]
  · intro hh
    rw [relE_tab h hp hl, relE_tab k hq hm]
    refine tabE_congr fun a b hab hb => ?_
    obtain ⟨x, hx, ex⟩ := perm_surj hp (i := a) (by omega)
    obtain ⟨y, hy, ey⟩ := perm_surj hp (i := b) (by omega)
    obtain ⟨x', hx', ex'⟩ := perm_surj hq (i := a) (by omega)
    obtain ⟨y', hy', ey'⟩ := perm_surj hq (i := b) (by omega)
    have := hh x y x' y' (by omega) (by omega) (by omega) (by omega) (by rw [ex, ex']) (by rw [ey, ey'])
    rw [← relB_nb h hp hl (by omega) (by omega), ← relB_nb k hq hm (by omega) (by omega), ex, ey, ex', ey'] at this
    simpa using this
theorem relC_same {n : Nat} {cs ds p q : List Int} (hc : cs.length = n) (hd : ds.length = n) (hp : Perm p) (hl : p.length = n) (hq : Perm q) (hm : q.length = n) :
    relC cs p = relC ds q ↔ ∀ x x', x < n → x' < n → nth p x = nth q x' → nth cs x = nth ds x' := by
  constructor
  · intro he x x' hx hx' e
    rw [← relC_nth hp (by omega) (v := x) (by omega), ← relC_nth hq (by omega) (v := x') (by omega), he, e]
  · intro hh
    refine nth_ext (by rw [relC_len, relC_len]; omega) fun k hk => ?_
    rw [relC_len] at hk
    obtain ⟨x, hx, ex⟩ := perm_surj hp (i := k) (by omega)
    obtain ⟨x', hx', ex'⟩ := perm_surj hq (i := k) (by omega)
    have := hh x x' (by omega) (by omega) (by rw [ex, ex'])
    rw [← relC_nth hp (by omega) (v := x) (by omega), ← relC_nth hq (by omega) (v := x') (by omega), ex, ex'] at this
    simpa using this
theorem relE_iota {n : Nat} {es : List Ed} (h : EdgesOk n es) : relE es (iotaP n) = es := by
  rw [relE_tab h (iotaP_perm n) (iotaP_len n)]
  conv => rhs; rw [edges_tab h]
  refine tabE_congr fun a b hab hb => ?_
  have := relB_nb h (iotaP_perm n) (iotaP_len n) (x := a) (y := b) (by omega) (by omega)
  rw [iotaP_nth (by omega), iotaP_nth (by omega)] at this
  simpa using this
theorem relC_iota (cs : List Int) : relC cs (iotaP cs.length) = cs := by
  refine nth_ext (relC_len _ _) fun k hk => ?_
  rw [relC_len] at hk
  have := relC_nth (iotaP_perm cs.length) (iotaP_len _) (v := k) hk
  rwa [iotaP_nth hk] at this
/-- an automorphism: it keeps the colors and the neighbors -/
structure Aut (cs : List Int) (es : List Ed) (s : List Int) : Prop where
  perm : Perm s
  len : s.length = cs.length
  col : ∀ v, v < cs.length → nth cs (nth s v).toNat = nth cs v
  nb : ∀ x y, x < cs.length → y < cs.length → nbB es (nth s x).toNat (nth s y).toNat = nbB es x y
theorem aut_iff {cs : List Int} {es : List Ed} (h : EdgesOk cs.length es) {s : List Int} (hs : Perm s) (hl : s.length = cs.length) : (relC cs s = cs ∧ relE es s = es) ↔ Aut cs es s := by
  have e1 := relC_same (cs := cs) (ds := cs) rfl rfl hs hl (iotaP_perm cs.length) (iotaP_len _)
  have e2 := relE_same h h hs hl (iotaP_perm cs.length) (iotaP_len _)
  rw [relC_iota] at e1
  rw [relE_iota h] at e2
  rw [e1, e2]
  constructor
  · rintro ⟨h1, h2⟩
    refine ⟨hs, hl, fun v hv => ?_, fun x y hx hy => ?_⟩
    · have b := perm_lt hs (v := v) (by omega)
      exact (h1 v (nth s v).toNat hv (by omega) (by rw [iotaP_nth (by omega)]; omega)).symm
    · have b := perm_lt hs (v := x) (by omega)
      have b' := perm_lt hs (v := y) (by omega)
      exact (h2 x y (nth s x).toNat (nth s y).toNat hx hy (by omega) (by omega) (by rw [iotaP_nth (by omega)]; omega) (by rw [iotaP_nth (by omega)]; omega)).symm
  · intro ha
    refine ⟨fun x x' hx hx' e => ?_, fun x y x' y' hx hy hx' hy' ex ey => ?_⟩
    · rw [iotaP_nth hx'] at e
      rw [← ha.col x hx, e]; simp
    · rw [iotaP_nth hx'] at ex
      rw [iotaP_nth hy'] at ey
      rw [← ha.nb x y hx hy, ex, ey]; simp
end Go.Proofs.YtkihflnenifcgaaGreatDoor
