/- Plain law: isomorphic graphs, searched to the end, have one canonical form. No condition beyond those stated. -/
import Derived.Test.YtdkbcjdimhgmnaaGreatRHI
set_option linter.unusedVariables false
set_option linter.unusedSimpArgs false
namespace Go.Proofs.YtdkbcjdimhgmnaaGreat
open Go.RowKit
section
variable {n : Nat} {cs ds : List Int} {es fs : List Ed} {s : List Int}
theorem Iso.back (h : Iso n es fs s) : Iso n fs es (invP s) := by
  refine ⟨invP_perm h.perm, by rw [invP_len, h.len], fun x y hx hy => ?_⟩
  have e1 := invP_right h.perm (i := x) (by rw [h.len]; exact hx)
  have e2 := invP_right h.perm (i := y) (by rw [h.len]; exact hy)
  have b1 := (perm_lt (invP_perm h.perm) (v := x) (by rw [invP_len, h.len]; exact hx)).1
  have b2 := (perm_lt (invP_perm h.perm) (v := y) (by rw [invP_len, h.len]; exact hy)).1
  rw [invP_len, h.len] at b1 b2
  rw [← h.nb _ _ b1 b2, e1, e2]
  rfl
theorem colors_back (hp : Perm s) (hl : s.length = n) (hd : ds.length = n) (h : cs = thenP s ds) : ds = thenP (invP s) cs := by
  refine nth_ext (by rw [thenP_len, invP_len, hl, hd]) fun x hx => ?_
  rw [hd] at hx
  have e1 := invP_right hp (i := x) (by rw [hl]; exact hx)
  have b1 := (perm_lt (invP_perm hp) (v := x) (by rw [invP_len, hl]; exact hx)).1
  rw [invP_len] at b1
  rw [thenP_nth (by rw [invP_len, hl]; exact hx), h, thenP_nth b1, e1]
  rfl
theorem Iso.forms (h : Iso n es fs s) (hc : cs.length = n) (hd : ds.length = n) (he : EdgesOk n es) (hf : EdgesOk n fs) (hcol : cs = thenP s ds) {p : List Int} (hp : Perm p) (hl : p.length = n) :
    relC cs (thenP s p) = relC ds p ∧ relE es (thenP s p) = relE fs p := by
  have h1 : Perm (thenP s p) := thenP_perm h.perm hp (by rw [h.len, hl])
  have h2 : (thenP s p).length = n := by rw [thenP_len, h.len]
  have key : ∀ x x', x < n → x' < n → nth (thenP s p) x = nth p x' → (nth s x).toNat = x' := fun x x' hx hx' e => by
    have b := (perm_lt h.perm (v := x) (by rw [h.len]; exact hx)).1
    rw [h.len] at b
    rw [thenP_nth (by rw [h.len]; exact hx)] at e
    exact perm_inj hp (by omega) (by omega) e
  constructor
  · refine (relC_same hc hd h1 h2 hp hl).2 fun x x' hx hx' e => ?_
    have := key x x' hx hx' e
    subst this
    rw [hcol, thenP_nth (by rw [h.len]; exact hx)]
  · refine (relE_same he hf h1 h2 hp hl).2 fun x y x' y' hx hy hx' hy' ex ey => ?_
    have k1 := key x x' hx hx' ex
    have k2 := key y y' hy hy' ey
    subst k1 k2
    exact (h.nb x y hx hy).symm
theorem iso_le (h : Iso n es fs s) (hc : cs.length = n) (hd : ds.length = n) (he : EdgesOk n es) (hf : EdgesOk n fs) (hcol : cs = thenP s ds) {b c : Nat} (h1 : (runP cs es b).spent = false) (h2 : (runP ds fs c).spent = false) :
    0 ≤ cmpF (runP ds fs c).fc (runP ds fs c).fe (runP cs es b).fc (runP cs es b).fe := by
  have hm := row0_mem (runP_best h2)
  generalize row (runP ds fs c).best 0 = p at hm
  have hL := runP_leaf ds fs c p hm
  have hF := (runP_seen ds fs h2).forms p hm
  have hC := hL.cells (refP_cells _ _)
  rw [hd] at hL
  have hL2 := hL.iso h (by have := (refP_cells (nearP n fs) ds).len; rw [this, hd])
  rw [← h.ref hd, ← hcol, ← hc] at hL2
  have hA := ((runP_seen cs es h1).all _ hL2).2.1
  unfold formLe at hA
  have hlp : p.length = n := by have := hC.1.len; rw [this, hd]
  obtain ⟨e1, e2⟩ := h.forms hc hd he hf hcol hC.2 hlp
  rw [e1, e2, hF.1, hF.2] at hA
  exact hA
theorem iso_same (h : Iso n es fs s) (hc : cs.length = n) (hd : ds.length = n) (he : EdgesOk n es) (hf : EdgesOk n fs) (hcol : cs = thenP s ds) {b c : Nat} (h1 : (runP cs es b).spent = false) (h2 : (runP ds fs c).spent = false) :
    (runP cs es b).fc = (runP ds fs c).fc ∧ (runP cs es b).fe = (runP ds fs c).fe := by
  have l1 := iso_le h hc hd he hf hcol h1 h2
  have l2 := iso_le h.back hd hc hf he (colors_back h.perm h.len hd hcol) h2 h1
  have l3 := cmpF_swap (runP cs es b).fc (runP ds fs c).fc (runP cs es b).fe (runP ds fs c).fe
  have hz : cmpF (runP cs es b).fc (runP cs es b).fe (runP ds fs c).fc (runP ds fs c).fe = 0 := by omega
  obtain ⟨e1, e2⟩ := cmpF_zero hz
  exact ⟨e1, flatE_inj e2⟩
theorem iso_sameP (h : Iso n es fs s) (hc : cs.length = n) (hd : ds.length = n) (he : EdgesOk n es) (hf : EdgesOk n fs) (hcol : cs = thenP s ds) {b c : Nat} (h1 : (runP cs es b).spent = false) (h2 : (runP ds fs c).spent = false) :
    sameP (runP cs es b) (runP ds fs c) = true := by
  obtain ⟨e1, e2⟩ := iso_same h hc hd he hf hcol h1 h2
  simp [sameP, sameG, e1, e2]
end
def szT (near : List (List Int)) : Nat → List Int → Nat
  | 0, cells => if tgtP cells < 0 then 0 else 1
  | f + 1, cells => if tgtP cells < 0 then 0 else ((vertsP cells (tgtP cells)).map fun v => 1 + szT near f (refP near (splitP cells v.toNat))).sum
theorem loop_spent {near : List (List Int)} {sub : St → List Int → St} {cells : List Int} {f : Nat} {g : List Int → Nat}
    (hsub : ∀ s c, s.spent = false → s.left < f → (sub s c).spent = decide (s.left < g c) ∧ ((sub s c).spent = false → (sub s c).left = s.left - g c)) :
    ∀ (vs : List Int) (s : St), s.spent = false → s.left ≤ f → (loopP near sub cells vs s).spent = decide (s.left < (vs.map fun v => 1 + g (refP near (splitP cells v.toNat))).sum) ∧ ((loopP near sub cells vs s).spent = false → (loopP near sub cells vs s).left = s.left - (vs.map fun v => 1 + g (refP near (splitP cells v.toNat))).sum)
  | [], s, h, _ => by simp [loopP, h]
  | v :: r, s, h, hl => by
    rw [loopP, if_neg (by rw [h]; simp), List.map_cons, List.sum_cons]
    by_cases h2 : s.left = 0
    · rw [if_pos h2, h2]
      exact ⟨by simp; omega, fun h => by cases h⟩
    · rw [if_neg h2]
      obtain ⟨a1, a2⟩ := hsub { s with left := s.left - 1, nodes := s.nodes + 1 } (refP near (splitP cells v.toNat)) h (by simp only []; omega)
      generalize hg : g (refP near (splitP cells v.toNat)) = k at *
      generalize sub { s with left := s.left - 1, nodes := s.nodes + 1 } (refP near (splitP cells v.toNat)) = t at *
      simp only [] at a1 a2
      by_cases h3 : s.left - 1 < k
      · rw [decide_eq_true h3] at a1
        have e : loopP near sub cells r t = t := by
          cases r with
          | nil => rfl
          | cons v' r' => rw [loopP, if_pos a1]
        rw [e, a1]
        refine ⟨?_, fun h => by cases h⟩
        rw [decide_eq_true (by omega)]
      · rw [decide_eq_false h3] at a1
        have hleft := a2 a1
        obtain ⟨b1, b2⟩ := loop_spent hsub r t a1 (by omega)
        refine ⟨?_, fun hs => ?_⟩
        · rw [b1]
          congr 1
          apply propext
          omega
        · rw [b2 hs]
          omega
theorem search_spent (cs : List Int) (es : List Ed) (near : List (List Int)) : ∀ (f : Nat) (s : St) (cells : List Int), s.spent = false → s.left ≤ f →
    (searchP cs es near f s cells).spent = decide (s.left < szT near f cells) ∧ ((searchP cs es near f s cells).spent = false → (searchP cs es near f s cells).left = s.left - szT near f cells)
  | 0, s, cells, h, hl => by
    rw [searchP, szT]
    by_cases ht : tgtP cells < 0
    · rw [if_pos ht, if_pos ht]
      simp [leafP, h]
    · rw [if_neg ht, if_neg ht]
      obtain ⟨c, e, h1, h2, _⟩ := tgtP_nonneg ht
      have hv : vertsP cells (tgtP cells) ≠ [] := fun e' => by
        have := vertsP_count cells (c : Int)
        rw [← e, e'] at this
        simp at this
        rw [e] at this
        omega
      have h0 : s.left = 0 := by omega
      obtain ⟨v, r, hr⟩ := List.exists_cons_of_ne_nil hv
      rw [hr, loopP, if_neg (by rw [h]; simp), if_pos h0, h0]
      exact ⟨by simp, fun h => by cases h⟩
  | f + 1, s, cells, h, hl => by
    rw [searchP, szT]
    by_cases ht : tgtP cells < 0
    · rw [if_pos ht, if_pos ht]
      simp [leafP, h]
    · rw [if_neg ht, if_neg ht]
      exact loop_spent (f := f + 1) (fun s c h1 h2 => search_spent cs es near f s c h1 (by omega)) _ s h hl
section
variable {n : Nat} {cs ds : List Int} {es fs : List Ed} {s : List Int}
theorem Iso.verts (h : Iso n es fs s) {c : List Int} (hc : c.length = n) (t : Int) : ((vertsP (thenP s c) t).map fun x => nth s x.toNat).Perm (vertsP c t) := by
  have e1 : vertsP c t = (iotaP n).filter fun x => nth c x.toNat = t := by
    unfold vertsP vF iotaP
    rw [hc, List.drop_zero, List.filter_map]
    rfl
  have e2 : ((vertsP (thenP s c) t).map fun x => nth s x.toNat) = s.filter fun x => nth c x.toNat = t := by
    have hs : s = (List.range n).map fun v => nth s v := by
      have := range_nth s
      rw [h.len] at this
      exact this.symm
    rw [show s.filter (fun x => nth c x.toNat = t) = ((List.range n).map fun v => nth s v).filter (fun x => nth c x.toNat = t) by rw [← hs]]
    unfold vertsP vF
    rw [thenP_len, h.len, List.drop_zero, List.map_map, List.filter_map]
    have ef : (List.range n).filter (fun v => nth (thenP s c) v == t) = (List.range n).filter ((fun x => decide (nth c x.toNat = t)) ∘ fun v => nth s v) := by
      refine List.filter_congr fun v hv => ?_
      rw [thenP_nth (by rw [h.len]; exact List.mem_range.1 hv)]
      rfl
    rw [ef]
    rfl
  rw [e1, e2]
  have := perm_iota h.perm
  rw [h.len] at this
  exact this.filter _
theorem Iso.size (h : Iso n es fs s) : ∀ (f : Nat) {c : List Int}, c.length = n → szT (nearP n es) f (thenP s c) = szT (nearP n fs) f c
  | 0, c, hc => by rw [szT, szT, h.tgt hc]
  | f + 1, c, hc => by
    rw [szT, szT, h.tgt hc]
    split
    · rfl
    · have hp := (h.verts hc (tgtP c)).map fun v => 1 + szT (nearP n fs) f (refP (nearP n fs) (splitP c v.toNat))
      rw [← hp.sum_nat, List.map_map]
      congr 1
      refine List.map_congr_left fun v hv => ?_
      obtain ⟨u, rfl, hu, -⟩ := vertsP_mem hv
      rw [thenP_len, h.len] at hu
      simp only [Function.comp, Int.toNat_natCast]
      rw [h.split hc hu, h.ref (by rw [splitP_len]; exact hc), h.size f (by have := (refP_cells (nearP n fs) (splitP c (nth s u).toNat)).len; rw [this, splitP_len]; exact hc)]
theorem iso_spent (h : Iso n es fs s) (hc : cs.length = n) (hd : ds.length = n) (hcol : cs = thenP s ds) (b : Nat) : (runP cs es b).spent = (runP ds fs b).spent ∧ ((runP cs es b).spent = false → (runP cs es b).left = (runP ds fs b).left) := by
  have e : szT (nearP cs.length es) b (refP (nearP cs.length es) cs) = szT (nearP ds.length fs) b (refP (nearP ds.length fs) ds) := by
    rw [hc, hd, hcol, h.ref hd]
    exact h.size b (by have := (refP_cells (nearP n fs) ds).len; rw [this, hd])
  obtain ⟨a1, a2⟩ := search_spent cs es (nearP cs.length es) b ⟨b, false, 0, 0, [], [], []⟩ (refP (nearP cs.length es) cs) rfl (Nat.le_refl _)
  obtain ⟨b1, b2⟩ := search_spent ds fs (nearP ds.length fs) b ⟨b, false, 0, 0, [], [], []⟩ (refP (nearP ds.length fs) ds) rfl (Nat.le_refl _)
  rw [e] at a1 a2
  have hs : (runP cs es b).spent = (runP ds fs b).spent := a1.trans b1.symm
  exact ⟨hs, fun k => (a2 k).trans (b2 (hs ▸ k)).symm⟩
end
theorem iso_done {n : Nat} {cs ds : List Int} {es fs : List Ed} {s : List Int} {b : Int} (h : Iso n es fs s) (hc : cs.length = n) (hd : ds.length = n) (hcol : cs = thenP s ds) (h0 : code2P cs es ds fs b = 0) : isoP cs es ds fs b = true := by
  obtain ⟨g1, g2, k1, k2⟩ := code2_zero h0
  have e1 := graph_edges g1
  have e2 := graph_edges g2
  rw [hc] at e1
  rw [hd] at e2
  unfold isoP
  rw [if_pos h0]
  exact iso_sameP h hc hd e1 e2 hcol (codeP_ok k1).1 (codeP_ok k2).1
end Go.Proofs.YtdkbcjdimhgmnaaGreat
