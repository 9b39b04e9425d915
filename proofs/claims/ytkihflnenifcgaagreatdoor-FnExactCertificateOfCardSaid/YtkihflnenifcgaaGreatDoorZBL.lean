/- Plain law: isomorphic graphs, searched to the end, have one canonical form. No condition beyond those stated. -/
import Derived.Test.YtkihflnenifcgaaGreatDoorZAS
import Derived.Test.YtkihflnenifcgaaGreatDoorZBK
set_option linter.unusedVariables false
set_option linter.unusedSimpArgs false
namespace Go.Proofs.YtkihflnenifcgaaGreatDoor
open Go.RowKit

section
variable {n : Nat} {cs ds : List Int} {es fs : List Ed} {s : List Int}
theorem Iso.back (h : Iso n es fs s) : Iso n fs es (invP s) := by
  refine ⟨invP_perm h.perm, by rw [invP_len, h.len], fun x y hx hy => ?_⟩
  have e1 := invP_right h.perm (i := x) (by rw [h.len]; exact hx)
  have e2 := invP_right h.perm (i := y) (by rw [h.len]; exact hy)
  have b1 := (perm_lt (invP_perm h.perm) (v := x) (by rw [invP_len, h.len]; exact hx)).1
  have b2 := (perm_lt (invP_perm h.perm) (v := y) (by rw [invP_len, h.len]; exact hy)).1
  rw [invP_len, h.len] at b1 b2
  rw [← h.nb _ _ b1 b2, e1, e2]
  rfl
theorem colors_back (hp : Perm s) (hl : s.length = n) (hd : ds.length = n) (h : cs = thenP s ds) : ds = thenP (invP s) cs := by
  refine nth_ext (by rw [thenP_len, invP_len, hl, hd]) fun x hx => ?_
  rw [hd] at hx
  have e1 := invP_right hp (i := x) (by rw [hl]; exact hx)
  have b1 := (perm_lt (invP_perm hp) (v := x) (by rw [invP_len, hl]; exact hx)).1
  rw [invP_len] at b1
  rw [thenP_nth (by rw [invP_len, hl]; exact hx), h, thenP_nth b1, e1]
  rfl
/-- a leaf's form is the same for the other graph -/
theorem Iso.forms (h : Iso n es fs s) (hc : cs.length = n) (hd : ds.length = n) (he : EdgesOk n es) (hf : EdgesOk n fs) (hcol : cs = thenP s ds) {p : List Int} (hp : Perm p) (hl : p.length = n) :
    relC cs (thenP s p) = relC ds p ∧ relE es (thenP s p) = relE fs p := by
  have h1 : Perm (thenP s p) := thenP_perm h.perm hp (by rw [h.len, hl])
  have h2 : (thenP s p).length = n := by rw [thenP_len, h.len]
  have key : ∀ x x', x < n → x' < n → nth (thenP s p) x = nth p x' → (nth s x).toNat = x' := fun x x' hx hx' e => by
    have b := (perm_lt h.perm (v := x) (by rw [h.len]; exact hx)).1
    rw [h.len] at b
    rw [thenP_nth (by rw [h.len]; exact hx)] at e
    exact perm_inj hp (by omega) (by omega) e
  constructor
  · refine (relC_same hc hd h1 h2 hp hl).2 fun x x' hx hx' e => ?_
    have := key x x' hx hx' e
    subst this
    rw [hcol, thenP_nth (by rw [h.len]; exact hx)]
  · refine (relE_same he hf h1 h2 hp hl).2 fun x y x' y' hx hy hx' hy' ex ey => ?_
    have k1 := key x x' hx hx' ex
    have k2 := key y y' hy hy' ey
    subst k1 k2
    exact (h.nb x y hx hy).symm
theorem iso_le (h : Iso n es fs s) (hc : cs.length = n) (hd : ds.length = n) (he : EdgesOk n es) (hf : EdgesOk n fs) (hcol : cs = thenP s ds) {b c : Nat} (h1 : (runP cs es b).spent = false) (h2 : (runP ds fs c).spent = false) :
    0 ≤ cmpF (runP ds fs c).fc (runP ds fs c).fe (runP cs es b).fc (runP cs es b).fe := by
  have hm := row0_mem (runP_best h2)
  generalize row (runP ds fs c).best 0 = p at hm
  have hL := runP_leaf ds fs c p hm
  have hF := (runP_seen ds fs h2).forms p hm
  have hC := hL.cells (refP_cells _ _)
  rw [hd] at hL
  have hL2 := hL.iso h (by have := (refP_cells (nearP n fs) ds).len; rw [this, hd])
  rw [← h.ref hd, ← hcol, ← hc] at hL2
  have hA := ((runP_seen cs es h1).all _ hL2).2.1
  unfold formLe at hA
  have hlp : p.length = n := by have := hC.1.len; rw [this, hd]
  obtain ⟨e1, e2⟩ := h.forms hc hd he hf hcol hC.2 hlp
  rw [e1, e2, hF.1, hF.2] at hA
  exact hA
theorem iso_same (h : Iso n es fs s) (hc : cs.length = n) (hd : ds.length = n) (he : EdgesOk n es) (hf : EdgesOk n fs) (hcol : cs = thenP s ds) {b c : Nat} (h1 : (runP cs es b).spent = false) (h2 : (runP ds fs c).spent = false) :
    (runP cs es b).fc = (runP ds fs c).fc ∧ (runP cs es b).fe = (runP ds fs c).fe := by
  have l1 := iso_le h hc hd he hf hcol h1 h2
  have l2 := iso_le h.back hd hc hf he (colors_back h.perm h.len hd hcol) h2 h1
  have l3 := cmpF_swap (runP cs es b).fc (runP ds fs c).fc (runP cs es b).fe (runP ds fs c).fe
  have hz : cmpF (runP cs es b).fc (runP cs es b).fe (runP ds fs c).fc (runP ds fs c).fe = 0 := by omega
  obtain ⟨e1, e2⟩ := cmpF_zero hz
  exact ⟨e1, flatE_inj e2⟩
theorem iso_sameP (h : Iso n es fs s) (hc : cs.length = n) (hd : ds.length = n) (he : EdgesOk n es) (hf : EdgesOk n fs) (hcol : cs = thenP s ds) {b c : Nat} (h1 : (runP cs es b).spent = false) (h2 : (runP ds fs c).spent = false) :
    sameP (runP cs es b) (runP ds fs c) = true := by
  obtain ⟨e1, e2⟩ := iso_same h hc hd he hf hcol h1 h2
  simp [sameP, sameG, e1, e2]
end
end Go.Proofs.YtkihflnenifcgaaGreatDoor
/- Plain law: isomorphic graphs spend equally many nodes. No condition beyond those stated. -/
namespace Go.Proofs.YtkihflnenifcgaaGreatDoor
open Go.RowKit

/-- the nodes below a node, as far as f goes -/
def szT (near : List (List Int)) : Nat → List Int → Nat
  | 0, cells => if tgtP cells < 0 then 0 else 1
  | f + 1, cells => if tgtP cells < 0 then 0 else ((vertsP cells (tgtP cells)).map fun v => 1 + szT near f (refP near (splitP cells v.toNat))).sum
theorem loop_spent {near : List (List Int)} {sub : St → List Int → St} {cells : List Int} {f : Nat} {g : List Int → Nat}
    (hsub : ∀ s c, s.spent = false → s.left < f → (sub s c).spent = decide (s.left < g c) ∧ ((sub s c).spent = false → (sub s c).left = s.left - g c)) :
    ∀ (vs : List Int) (s : St), s.spent = false → s.left ≤ f → (loopP near sub cells vs s).spent = decide (s.left < (vs.map fun v => 1 + g (refP near (splitP cells v.toNat))).sum) ∧ ((loopP near sub cells vs s).spent = false → (loopP near sub cells vs s).left = s.left - (vs.map fun v => 1 + g (refP near (splitP cells v.toNat))).sum)
  | [], s, h, _ => by simp [loopP, h]
  | v :: r, s, h, hl => by
    rw [loopP, if_neg (by rw [h]; simp), List.map_cons, List.sum_cons]
    by_cases h2 : s.left = 0
    · rw [if_pos h2, h2]
      exact ⟨by simp; omega, fun h => by cases h⟩
    · rw [if_neg h2]
      obtain ⟨a1, a2⟩ := hsub { s with left := s.left - 1, nodes := s.nodes + 1 } (refP near (splitP cells v.toNat)) h (by simp only []; omega)
      generalize hg : g (refP near (splitP cells v.toNat)) = k at *
      generalize sub { s with left := s.left - 1, nodes := s.nodes + 1 } (refP near (splitP cells v.toNat)) = t at *
      simp only [] at a1 a2
      by_cases h3 : s.left - 1 < k
      · rw [decide_eq_true h3] at a1
        have e : loopP near sub cells r t = t := by
          cases r with
          | nil => rfl
          | cons v' r' => rw [loopP, if_pos a1]
        rw [e, a1]
        refine ⟨?_, fun h => by cases h⟩
        rw [decide_eq_true (by omega)]
      · rw [decide_eq_false h3] at a1
        have hleft := a2 a1
        obtain ⟨b1, b2⟩ := loop_spent hsub r t a1 (by omega)
        refine ⟨?_, fun hs => ?_⟩
        · rw [b1]
          congr 1
          apply propext
          omega
        · rw [b2 hs]
          omega
theorem search_spent (cs : List Int) (es : List Ed) (near : List (List Int)) : ∀ (f : Nat) (s : St) (cells : List Int), s.spent = false → s.left ≤ f →
    (searchP cs es near f s cells).spent = decide (s.left < szT near f cells) ∧ ((searchP cs es near f s cells).spent = false → (searchP cs es near f s cells).left = s.left - szT near f cells)
  | 0, s, cells, h, hl => by
    rw [searchP, szT]
    by_cases ht : tgtP cells < 0
    · rw [if_pos ht, if_pos ht]
      simp [leafP, h]
    · rw [if_neg ht, if_neg ht]
      obtain ⟨c, e, h1, h2, _⟩ := tgtP_nonneg ht
      have hv : vertsP cells (tgtP cells) ≠ [] := fun e' => by
        have := vertsP_count cells (c : Int)
        rw [← e, e'] at this
        simp at this
        rw [e] at this
        omega
      have h0 : s.left = 0 := by omega
      obtain ⟨v, r, hr⟩ := List.exists_cons_of_ne_nil hv
      rw [hr, loopP, if_neg (by rw [h]; simp), if_pos h0, h0]
      exact ⟨by simp, fun h => by cases h⟩
  | f + 1, s, cells, h, hl => by
    rw [searchP, szT]
    by_cases ht : tgtP cells < 0
    · rw [if_pos ht, if_pos ht]
      simp [leafP, h]
    · rw [if_neg ht, if_neg ht]
      exact loop_spent (f := f + 1) (fun s c h1 h2 => search_spent cs es near f s c h1 (by omega)) _ s h hl
section
variable {n : Nat} {cs ds : List Int} {es fs : List Ed} {s : List Int}
theorem Iso.verts (h : Iso n es fs s) {c : List Int} (hc : c.length = n) (t : Int) : ((vertsP (thenP s c) t).map fun x => nth s x.toNat).Perm (vertsP c t) := by
  have e1 : vertsP c t = (iotaP n).filter fun x => nth c x.toNat = t := by
    unfold vertsP vF iotaP
    rw [hc, List.drop_zero, List.filter_map]
    rfl
  have e2 : ((vertsP (thenP s c) t).map fun x => nth s x.toNat) = s.filter fun x => nth c x.toNat = t := by
    have hs : s = (List.range n).map fun v => nth s v := by
      have := range_nth s
      rw [h.len] at this
      exact this.symm
    rw [show s.filter (fun x => nth c x.toNat = t) = ((List.range n).map fun v => nth s v).filter (fun x => nth c x.toNat = t) by rw [← hs]]
    unfold vertsP vF
    rw [thenP_len, h.len, List.drop_zero, List.map_map, List.filter_map]
    have ef : (List.range n).filter (fun v => nth (thenP s c) v == t) = (List.range n).filter ((fun x => decide (nth c x.toNat = t)) ∘ fun v => nth s v) := by
      refine List.filter_congr fun v hv => ?_
      rw [thenP_nth (by rw [h.len]; exact List.mem_range.1 hv)]
      rfl
    rw [ef]
    rfl
  rw [e1, e2]
  have := perm_iota h.perm
  rw [h.len] at this
  exact this.filter _
theorem Iso.size (h : Iso n es fs s) : ∀ (f : Nat) {c : List Int}, c.length = n → szT (nearP n es) f (thenP s c) = szT (nearP n fs) f c
  | 0, c, hc => by rw [szT, szT, h.tgt hc]
  | f + 1, c, hc => by
    rw [szT, szT, h.tgt hc]
    split
    · rfl
    · have hp := (h.verts hc (tgtP c)).map fun v => 1 + szT (nearP n fs) f (refP (nearP n fs) (splitP c v.toNat))
      rw [← hp.sum_nat, List.map_map]
      congr 1
      refine List.map_congr_left fun v hv => ?_
      obtain ⟨u, rfl, hu, -⟩ := vertsP_mem hv
      rw [thenP_len, h.len] at hu
      simp only [Function.comp, Int.toNat_natCast]
      rw [h.split hc hu, h.ref (by rw [splitP_len]; exact hc), h.size f (by have := (refP_cells (nearP n fs) (splitP c (nth s u).toNat)).len; rw [this, splitP_len]; exact hc)]
theorem iso_spent (h : Iso n es fs s) (hc : cs.length = n) (hd : ds.length = n) (hcol : cs = thenP s ds) (b : Nat) : (runP cs es b).spent = (runP ds fs b).spent ∧ ((runP cs es b).spent = false → (runP cs es b).left = (runP ds fs b).left) := by
  have e : szT (nearP cs.length es) b (refP (nearP cs.length es) cs) = szT (nearP ds.length fs) b (refP (nearP ds.length fs) ds) := by
    rw [hc, hd, hcol, h.ref hd]
    exact h.size b (by have := (refP_cells (nearP n fs) ds).len; rw [this, hd])
  obtain ⟨a1, a2⟩ := search_spent cs es (nearP cs.length es) b ⟨b, false, 0, 0, [], [], []⟩ (refP (nearP cs.length es) cs) rfl (Nat.le_refl _)
  obtain ⟨b1, b2⟩ := search_spent ds fs (nearP ds.length fs) b ⟨b, false, 0, 0, [], [], []⟩ (refP (nearP ds.length fs) ds) rfl (Nat.le_refl _)
  rw [e] at a1 a2
  have hs : (runP cs es b).spent = (runP ds fs b).spent := a1.trans b1.symm
  exact ⟨hs, fun k => (a2 k).trans (b2 (hs ▸ k)).symm⟩
end
end Go.Proofs.YtkihflnenifcgaaGreatDoor
/- CanonicalGraph, both sides. No condition beyond those stated. -/
namespace Go.Proofs.YtkihflnenifcgaaGreatDoor
open Go.RowKit

/-- a graph, a list and a code, all in memory of the call's own, the list's block not the colors' -/
def RetCan (w : World) (gc : List Int) (ge : List Ed) (p : List Int) (code : Int) (e : Ending) (w' : World) : Prop :=
  ∃ A n c F m d P np cp, e = .returned (.tuple #[.agg #[.slice A n c, .slice F m d], .slice P np cp, .int .i64 code]) ∧ OI w' w.heap.size 2 A n c gc ∧ OE w' w.heap.size 65 F m d ge ∧ OI w' w.heap.size 2 P np cp p ∧ (blk P = none ∨ blk P ≠ blk A) ∧ Below w.heap.size w w'
noncomputable def canC (cs : List Int) (es : List Ed) (b : Int) : List Int := if codeP cs es b = 0 then (runP cs es b.toNat).fc else []
noncomputable def canE (cs : List Int) (es : List Ed) (b : Int) : List Ed := if codeP cs es b = 0 then (runP cs es b.toNat).fe else []
noncomputable def canQ (cs : List Int) (es : List Ed) (b : Int) : List Int := if codeP cs es b = 0 then row (runP cs es b.toNat).best 0 else []
/-- the first row that a search has found -/
theorem BV.first {w : World} {B : Nat} {A : Option Addr} {n c : Nat} {vs : List Sl} {zss : List (List Int)} (h : BV w B A n c vs zss) (h0 : 0 < n) {FA : Option Addr} (ha : Afar vs FA) :
    ∃ (g : Nat) (v : Sl), A = some ⟨g, 0, none⟩ ∧ w.cell? ⟨g, 0, none⟩ = some (.slice v.1 v.2.1 v.2.2) ∧ OI w B 2 v.1 v.2.1 v.2.2 (row zss 0) ∧ (blk v.1 = none ∨ blk v.1 ≠ blk FA) := by
  have hz : 0 < zss.length := by rw [h.slen]; exact h0
  have hj : 0 < vs.length := by rw [h.len]; exact hz
  have hv := List.getElem?_eq_getElem hj
  obtain ⟨g, hA, hc, hf⟩ := h.os.cell (j := 0) (u := slv vs[0]) (by rw [List.getElem?_map, hv]; rfl)
  exact ⟨g, vs[0], hA, hc, by rw [row_get hz]; exact h.rows 0 _ _ hv (List.getElem?_eq_getElem hz), ha 0 _ hv⟩
set_option maxRecDepth 100000 in
set_option maxHeartbeats 2000000 in
theorem impl_CanonicalGraph (A : Option Addr) (n c : Nat) (F : Option Addr) (m d : Nat) (cs : List Int) (es : List Ed) (b : Int) (w : World) (hG : RG w A n F m cs es) (hn : n ≤ 9223372036854775807) (hm : m ≤ 9223372036854775807) :
    Calls Tryz.prog 7 #[.agg #[.slice A n c, .slice F m d], .int .i64 b] w (RetCan w (canC cs es b) (canE cs es b) (canQ cs es b) (codeP cs es b)) := by
  have hb1 := below_then (below_alloc w (.cells #[.slice A n c, .slice F m d] 27)) (below_alloc _ (.cells #[.slice none 0 0, .slice none 0 0] 27))
  have Y : Blk ((w.alloc (.cells #[.slice A n c, .slice F m d] 27)).alloc (.cells #[.slice none 0 0, .slice none 0 0] 27)) (w.heap.size + 1) 27 #[.slice none 0 0, .slice none 0 0] := by
    have := Blk.new (w.alloc (.cells #[.slice A n c, .slice F m d] 27)) 27 #[.slice none 0 0, .slice none 0 0]
    simpa using this
  have X := (Blk.new w 27 #[.slice A n c, .slice F m d]).alloc (.cells #[.slice none 0 0, .slice none 0 0] 27)
  have hx := explored_any' _ A n c F m d cs es b (hG.keep hb1) hn hm
  obtain ⟨ii, hi, hi0, hi1, hi2⟩ := info_parts graph_info
  rcases codeP_cases cs es b with h0 | ⟨h0, h1⟩
  · have HC := Lib.hid h0
    have H1 := Lib.hid (show canC cs es b = (runP cs es b.toNat).fc by rw [canC, if_pos h0])
    have H2 := Lib.hid (show canE cs es b = (runP cs es b.toNat).fe by rw [canE, if_pos h0])
    have H3 := Lib.hid (show canQ cs es b = row (runP cs es b.toNat).best 0 by rw [canQ, if_pos h0])
    have hbe := runP_best (codeP_ok h0).1
    clear h0
    generalize hW1 : (w.alloc (.cells #[.slice A n c, .slice F m d] 27)).alloc (.cells #[.slice none 0 0, .slice none 0 0] 27) = W1 at *
    obtain ⟨x0, x1⟩ := X.cells2
    go_enter Tryz.func7, Tryz.ntmps7
    go_wp2_with fail
    refine hx.mono ?_
    rintro e w2 ⟨hb2, v, rfl, hv⟩
    obtain ⟨w0, rfl, hb0, -, -, -, N, cN, BA, bn, bc, FA, fn, fk, FF, fm, fd, hX⟩ := hv HC.out
    rw [HC.out]
    clear hv hx
    generalize runP cs es b.toNat = s at *
    obtain ⟨vs, hbv, hba⟩ := hX.sb.best
    have hbn : 0 < bn := by rw [← hbv.slen]; exact List.length_pos_iff.2 hbe
    obtain ⟨gb, ⟨P, np, cp⟩, rfl, cP, hP, hfar⟩ := hbv.first hbn hba
    simp only at cP hP hfar
    have c7 := hX.cells.2.2.2.1
    have c8 := hX.cells.2.2.2.2.1
    have c9 := hX.cells.2.2.2.2.2
    have Y2 := Y.after hb2
    have HX := Lib.hid hX
    have HP := Lib.hid hP
    obtain ⟨y0, y1⟩ := Y2.cells2
    have f0 := Y2.frozen 0
    have f1 := Y2.frozen 1
    have hsz : W1.heap.size = w.heap.size + 1 + 1 := by rw [← hW1]; simp
    have hs0 : w.heap.size + 1 < w0.heap.size := by have := hb0.size; omega
    have hsg : w.heap.size + 1 < gb := by have := (hbv.os.lt (k := gb) rfl).1; omega
    clear hbv hba hP hX hbe
    go_wp2
    have hS : (w2.drew.cell? ⟨w0.heap.size, 7, none⟩ = some (.slice FA fn fk) ∧ w2.drew.cell? ⟨w0.heap.size, 8, none⟩ = some (.slice FF fm fd) ∧ w2.drew.cell? ⟨w0.heap.size, 9, none⟩ = some (.slice (some ⟨gb, 0, none⟩) bn bc)) ∧ w2.drew.cell? ⟨gb, 0, none⟩ = some (.slice P np cp) := ⟨⟨by simpa using c7, by simpa using c8, by simpa using c9⟩, by simpa using cP⟩
    refine wp_region_any (by kernel_rfl) (wpAny_of_held (S := fun w' => (w'.cell? ⟨w0.heap.size, 7, none⟩ = some (.slice FA fn fk) ∧ w'.cell? ⟨w0.heap.size, 8, none⟩ = some (.slice FF fm fd) ∧ w'.cell? ⟨w0.heap.size, 9, none⟩ = some (.slice (some ⟨gb, 0, none⟩) bn bc)) ∧ w'.cell? ⟨gb, 0, none⟩ = some (.slice P np cp)) _ _ _ _ ?_)
    refine wpAnyH_take (i := 0) (v := ?_) rfl (by kernel_rfl) (by kernel_rfl) (by kernel_rfl) (fun _ _ _ h => h) (Or.inl ⟨by rfl, ?_⟩) (by assumption) ?_
    rotate_left
    · (intro w hSw; (try dsimp only at hSw); go_simp; (try with_reducible rfl))
    simp only [Act.put, List.setIfInBounds_toArray, List.set_cons_zero, List.set_cons_succ]
    refine wpAnyH_take (i := 1) (v := ?_) rfl (by kernel_rfl) (by kernel_rfl) (by kernel_rfl) (fun _ _ _ h => h) (Or.inl ⟨by rfl, ?_⟩) (by assumption) ?_
    rotate_left
    · (intro w hSw; (try dsimp only at hSw); go_simp; (try with_reducible rfl))
    simp only [Act.put, List.setIfInBounds_toArray, List.set_cons_zero, List.set_cons_succ]
    refine wpAnyH_take (i := 2) (v := ?_) rfl (by kernel_rfl) (by kernel_rfl) (by kernel_rfl) (fun _ _ _ h => h) (Or.inl ⟨by rfl, ?_⟩) (by assumption) ?_
    rotate_left
    · (intro w hSw; (try dsimp only at hSw); go_simp; (try with_reducible rfl))
    simp only [Act.put, List.setIfInBounds_toArray, List.set_cons_zero, List.set_cons_succ]
    refine wpAnyH_take (i := 3) (v := ?_) rfl (by kernel_rfl) (by kernel_rfl) (by kernel_rfl) (fun _ _ _ h => h) (Or.inl ⟨by rfl, ?_⟩) (by assumption) ?_
    rotate_left
    · (intro w hSw; (try dsimp only at hSw); go_simp; (try with_reducible rfl))
    simp only [Act.put, List.setIfInBounds_toArray, List.set_cons_zero, List.set_cons_succ]
    refine wpAnyH_take (i := 4) (v := ?_) rfl (by kernel_rfl) (by kernel_rfl) (by kernel_rfl) (fun _ _ _ h => h) (Or.inl ⟨by rfl, ?_⟩) (by assumption) ?_
    rotate_left
    · (intro w hSw; (try dsimp only at hSw); go_simp; (try with_reducible rfl))
    simp only [Act.put, List.setIfInBounds_toArray, List.set_cons_zero, List.set_cons_succ]
    refine wpAnyH_take (i := 5) (v := ?_) rfl (by kernel_rfl) (by kernel_rfl) (by kernel_rfl) (fun _ _ _ h => h) (Or.inl ⟨by rfl, ?_⟩) (by assumption) ?_
    rotate_left
    · (intro w hSw; (try dsimp only at hSw); go_simp; (try with_reducible rfl))
    simp only [Act.put, List.setIfInBounds_toArray, List.set_cons_zero, List.set_cons_succ]
    refine wpAnyH_take (i := 6) (v := ?_) rfl (by kernel_rfl) (by kernel_rfl) (by kernel_rfl) (fun _ _ _ h => h) (Or.inl ⟨by rfl, ?_⟩) (by assumption) ?_
    rotate_left
    · (intro w hSw; (try dsimp only at hSw); go_simp; (try with_reducible rfl))
    simp only [Act.put, List.setIfInBounds_toArray, List.set_cons_zero, List.set_cons_succ]
    refine wpAnyH_take (i := 7) (v := ?_) rfl (by kernel_rfl) (by kernel_rfl) (by kernel_rfl) (fun _ _ _ h => h) (Or.inl ⟨by rfl, ?_⟩) (by assumption) ?_
    rotate_left
    · (intro w hSw; (try dsimp only at hSw); go_simp; (try with_reducible rfl))
    simp only [Act.put, List.setIfInBounds_toArray, List.set_cons_zero, List.set_cons_succ]
    refine wpAnyH_take (i := 8) (v := ?_) rfl (by kernel_rfl) (by kernel_rfl) (by kernel_rfl) (fun _ _ _ h => h) (Or.inl ⟨by rfl, ?_⟩) (by assumption) ?_
    rotate_left
    · (intro w hSw; (try dsimp only at hSw); go_simp; (try with_reducible rfl))
    simp only [Act.put, List.setIfInBounds_toArray, List.set_cons_zero, List.set_cons_succ]
    refine wpAnyH_take (i := 9) (v := ?_) rfl (by kernel_rfl) (by kernel_rfl) (by kernel_rfl) (fun _ _ _ h => h) (Or.inl ⟨by rfl, ?_⟩) (by assumption) ?_
    rotate_left
    · (intro w hSw; (try dsimp only at hSw); go_simp; (try with_reducible rfl))
    simp only [Act.put, List.setIfInBounds_toArray, List.set_cons_zero, List.set_cons_succ]
    refine wpAnyH_ready (rs := [10]) (by kernel_rfl) (by simp) ?_
    refine AllReadyH.cons rfl (fun K hK => ?_) AllReadyH.nil
    go_simp
    refine hK.out _ _ ?_ (fun hS1 => ?_)
    · refine ⟨⟨?_, ?_, ?_⟩, ?_⟩ <;> go_simp
    clear hK K hS
    refine wpAnyH_take (i := 11) (v := ?_) rfl (by kernel_rfl) (by kernel_rfl) (by kernel_rfl) (fun _ _ _ h => h) (Or.inl ⟨by rfl, ?_⟩) (by assumption) ?_
    rotate_left
    · (intro w hSw; (try dsimp only at hSw); go_simp; (try with_reducible rfl))
    simp only [Act.put, List.setIfInBounds_toArray, List.set_cons_zero, List.set_cons_succ]
    simp only [List.getElem_toArray, List.getElem_cons_succ, List.getElem_cons_zero, List.setIfInBounds_toArray, List.set_cons_zero, List.set_cons_succ]
    refine wpAnyH_take (i := 12) (v := ?_) rfl (by kernel_rfl) (by kernel_rfl) (by kernel_rfl) (fun _ _ _ h => h) (Or.inl ⟨by rfl, ?_⟩) (by assumption) ?_
    rotate_left
    · (intro w hSw; (try dsimp only at hSw); go_simp; (try with_reducible rfl))
    simp only [Act.put, List.setIfInBounds_toArray, List.set_cons_zero, List.set_cons_succ]
    simp only [List.getElem_toArray, List.getElem_cons_succ, List.getElem_cons_zero, List.setIfInBounds_toArray, List.set_cons_zero, List.set_cons_succ]
    refine wpAnyH_done (by kernel_rfl) ?_ _
    clear hS1 c7 c8 c9 cP y0 y1 f0 f1
    have YF := (Y2.set_ 0 (.slice FA fn fk)).set_ 1 (.slice FF fm fd)
    obtain ⟨z0, z1⟩ : (((w2.setCell ⟨w.heap.size + 1, 0, none⟩ (.slice FA fn fk)).setCell ⟨w.heap.size + 1, 1, none⟩ (.slice FF fm fd)).cell? ⟨w.heap.size + 1, 0, none⟩ = some (.slice FA fn fk)) ∧ (((w2.setCell ⟨w.heap.size + 1, 0, none⟩ (.slice FA fn fk)).setCell ⟨w.heap.size + 1, 1, none⟩ (.slice FF fm fd)).cell? ⟨w.heap.size + 1, 1, none⟩ = some (.slice FF fm fd)) := ⟨YF.cell 0, YF.cell 1⟩
    have hlow : w.heap.size + 1 < w0.heap.size + 1 := by omega
    have hmo : w.heap.size ≤ w0.heap.size + 1 := by omega
    go_wp2
    refine bodyPost_ret (v := .tuple #[.agg #[.slice FA fn fk, .slice FF fm fd], .slice P np cp, .int .i64 0]) (by simp [results, Tryz.results7, go_sem, z0, z1]) rfl ?_
    rw [H1.out, H2.out, H3.out, HC.out]
    refine ⟨_, _, _, _, _, _, _, _, _, rfl, ?_, ?_, ?_, hfar, ?_⟩
    · exact (((HX.out.sb.fc.setLow hlow _).setLow hlow _).drewN 1).more hmo
    · exact (((HX.out.sb.fe.setLow hlow _).setLow hlow _).drewN 1).more hmo
    · exact (((HP.out.setLow hlow _).setLow hlow _).drewN 1).more hmo
    · have hw2 := hb1.trans (hb2.mono hb1.size)
      exact ((hw2.setCell (p := ⟨w.heap.size + 1, 0, none⟩) (by simp) _).setCell (p := ⟨w.heap.size + 1, 1, none⟩) (by simp) _).trans (below_drewn' _ _ 1)
  · have HC := Lib.hid h0
    have H1' := Lib.hid (show canC cs es b = [] by rw [canC, if_neg h0])
    have H2' := Lib.hid (show canE cs es b = [] by rw [canE, if_neg h0])
    have H3' := Lib.hid (show canQ cs es b = [] by rw [canQ, if_neg h0])
    clear h0
    generalize hW1 : (w.alloc (.cells #[.slice A n c, .slice F m d] 27)).alloc (.cells #[.slice none 0 0, .slice none 0 0] 27) = W1 at *
    obtain ⟨x0, x1⟩ := X.cells2
    go_enter Tryz.func7, Tryz.ntmps7
    go_wp2_with fail
    refine hx.mono ?_
    rintro e w2 ⟨hb2, v, rfl, -⟩
    have Y2 := Y.after hb2
    obtain ⟨y0, y1⟩ := Y2.cells2
    have f0 := Y2.frozen 0
    have f1 := Y2.frozen 1
    have YF := (Y2.set_ 0 (.slice none 0 0)).set_ 1 (.slice none 0 0)
    obtain ⟨z0, z1⟩ : (((w2.setCell ⟨w.heap.size + 1, 0, none⟩ (.slice none 0 0)).setCell ⟨w.heap.size + 1, 1, none⟩ (.slice none 0 0)).cell? ⟨w.heap.size + 1, 0, none⟩ = some (.slice none 0 0)) ∧ (((w2.setCell ⟨w.heap.size + 1, 0, none⟩ (.slice none 0 0)).setCell ⟨w.heap.size + 1, 1, none⟩ (.slice none 0 0)).cell? ⟨w.heap.size + 1, 1, none⟩ = some (.slice none 0 0)) := ⟨YF.cell 0, YF.cell 1⟩
    clear hx
    go_wp2
    refine bodyPost_ret (v := .tuple #[.agg #[.slice none 0 0, .slice none 0 0], .slice none 0 0, .int .i64 (codeP cs es b)]) (by simp [results, Tryz.results7, go_sem, z0, z1]) rfl ?_
    rw [H1'.out, H2'.out, H3'.out]
    have hw2 := hb1.trans (hb2.mono hb1.size)
    exact ⟨_, _, _, _, _, _, _, _, _, rfl, OI.nil_ _ _ _, OE.nil_ _ _ _, OI.nil_ _ _ _, far_none _, (hw2.setCell (p := ⟨w.heap.size + 1, 0, none⟩) (by simp) _).setCell (p := ⟨w.heap.size + 1, 1, none⟩) (by simp) _⟩
end Go.Proofs.YtkihflnenifcgaaGreatDoor
