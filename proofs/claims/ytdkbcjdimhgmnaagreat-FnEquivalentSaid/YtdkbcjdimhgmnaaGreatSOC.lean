/- Plain law: isomorphic graphs, searched to the end, have one canonical form. No condition beyond those stated. -/
import Derived.Test.YtdkbcjdimhgmnaaGreatSIK
import Derived.Test.YtdkbcjdimhgmnaaGreatSHQ
import Derived.Test.YtdkbcjdimhgmnaaGreatSOB
set_option linter.unusedVariables false
set_option linter.unusedSimpArgs false
namespace Go.Proofs.YtdkbcjdimhgmnaaGreat
open Go.RowKit
section
variable {n : Nat} {cs ds : List Int} {es fs : List Ed} {s : List Int}
theorem Iso.back (h : Iso n es fs s) : Iso n fs es (invP s) := by
  refine ⟨invP_perm h.perm, by rw [invP_len, h.len], fun x y hx hy => ?_⟩
  have e1 := invP_right h.perm (i := x) (by rw [h.len]; exact hx)
  have e2 := invP_right h.perm (i := y) (by rw [h.len]; exact hy)
  have b1 := (perm_lt (invP_perm h.perm) (v := x) (by rw [invP_len, h.len]; exact hx)).1
  have b2 := (perm_lt (invP_perm h.perm) (v := y) (by rw [invP_len, h.len]; exact hy)).1
  rw [invP_len, h.len] at b1 b2
  rw [← h.nb _ _ b1 b2, e1, e2]
  rfl
theorem colors_back (hp : Perm s) (hl : s.length = n) (hd : ds.length = n) (h : cs = thenP s ds) : ds = thenP (invP s) cs := by
  refine nth_ext (by rw [thenP_len, invP_len, hl, hd]) fun x hx => ?_
  rw [hd] at hx
  have e1 := invP_right hp (i := x) (by rw [hl]; exact hx)
  have b1 := (perm_lt (invP_perm hp) (v := x) (by rw [invP_len, hl]; exact hx)).1
  rw [invP_len] at b1
  rw [thenP_nth (by rw [invP_len, hl]; exact hx), h, thenP_nth b1, e1]
  rfl
theorem Iso.forms (h : Iso n es fs s) (hc : cs.length = n) (hd : ds.length = n) (he : EdgesOk n es) (hf : EdgesOk n fs) (hcol : cs = thenP s ds) {p : List Int} (hp : Perm p) (hl : p.length = n) :
    relC cs (thenP s p) = relC ds p ∧ relE es (thenP s p) = relE fs p := by
  have h1 : Perm (thenP s p) := thenP_perm h.perm hp (by rw [h.len, hl])
  have h2 : (thenP s p).length = n := by rw [thenP_len, h.len]
  have key : ∀ x x', x < n → x' < n → nth (thenP s p) x = nth p x' → (nth s x).toNat = x' := fun x x' hx hx' e => by
    have b := (perm_lt h.perm (v := x) (by rw [h.len]; exact hx)).1
    rw [h.len] at b
    rw [thenP_nth (by rw [h.len]; exact hx)] at e
    exact perm_inj hp (by omega) (by omega) e
  constructor
  · refine (relC_same hc hd h1 h2 hp hl).2 fun x x' hx hx' e => ?_
    have := key x x' hx hx' e
    subst this
    rw [hcol, thenP_nth (by rw [h.len]; exact hx)]
  · refine (relE_same he hf h1 h2 hp hl).2 fun x y x' y' hx hy hx' hy' ex ey => ?_
    have k1 := key x x' hx hx' ex
    have k2 := key y y' hy hy' ey
    subst k1 k2
    exact (h.nb x y hx hy).symm
theorem iso_le (h : Iso n es fs s) (hc : cs.length = n) (hd : ds.length = n) (he : EdgesOk n es) (hf : EdgesOk n fs) (hcol : cs = thenP s ds) {b c : Nat} (h1 : (runP cs es b).spent = false) (h2 : (runP ds fs c).spent = false) :
    0 ≤ cmpF (runP ds fs c).fc (runP ds fs c).fe (runP cs es b).fc (runP cs es b).fe := by
  have hm := row0_mem (runP_best h2)
  generalize row (runP ds fs c).best 0 = p at hm
  have hL := runP_leaf ds fs c p hm
  have hF := (runP_seen ds fs h2).forms p hm
  have hC := hL.cells (refP_cells _ _)
  rw [hd] at hL
  have hL2 := hL.iso h (by have := (refP_cells (nearP n fs) ds).len; rw [this, hd])
  rw [← h.ref hd, ← hcol, ← hc] at hL2
  have hA := ((runP_seen cs es h1).all _ hL2).2.1
  unfold formLe at hA
  have hlp : p.length = n := by have := hC.1.len; rw [this, hd]
  obtain ⟨e1, e2⟩ := h.forms hc hd he hf hcol hC.2 hlp
  rw [e1, e2, hF.1, hF.2] at hA
  exact hA
theorem iso_same (h : Iso n es fs s) (hc : cs.length = n) (hd : ds.length = n) (he : EdgesOk n es) (hf : EdgesOk n fs) (hcol : cs = thenP s ds) {b c : Nat} (h1 : (runP cs es b).spent = false) (h2 : (runP ds fs c).spent = false) :
    (runP cs es b).fc = (runP ds fs c).fc ∧ (runP cs es b).fe = (runP ds fs c).fe := by
  have l1 := iso_le h hc hd he hf hcol h1 h2
  have l2 := iso_le h.back hd hc hf he (colors_back h.perm h.len hd hcol) h2 h1
  have l3 := cmpF_swap (runP cs es b).fc (runP ds fs c).fc (runP cs es b).fe (runP ds fs c).fe
  have hz : cmpF (runP cs es b).fc (runP cs es b).fe (runP ds fs c).fc (runP ds fs c).fe = 0 := by omega
  obtain ⟨e1, e2⟩ := cmpF_zero hz
  exact ⟨e1, flatE_inj e2⟩
theorem iso_sameP (h : Iso n es fs s) (hc : cs.length = n) (hd : ds.length = n) (he : EdgesOk n es) (hf : EdgesOk n fs) (hcol : cs = thenP s ds) {b c : Nat} (h1 : (runP cs es b).spent = false) (h2 : (runP ds fs c).spent = false) :
    sameP (runP cs es b) (runP ds fs c) = true := by
  obtain ⟨e1, e2⟩ := iso_same h hc hd he hf hcol h1 h2
  simp [sameP, sameG, e1, e2]
end
theorem iso_done {n : Nat} {cs ds : List Int} {es fs : List Ed} {s : List Int} {b : Int} (h : Iso n es fs s) (hc : cs.length = n) (hd : ds.length = n) (hcol : cs = thenP s ds) (h0 : code2P cs es ds fs b = 0) : isoP cs es ds fs b = true := by
  obtain ⟨g1, g2, k1, k2⟩ := code2_zero h0
  have e1 := graph_edges g1
  have e2 := graph_edges g2
  rw [hc] at e1
  rw [hd] at e2
  unfold isoP
  rw [if_pos h0]
  exact iso_sameP h hc hd e1 e2 hcol (codeP_ok k1).1 (codeP_ok k2).1
section
variable {w w' : World} {B : Nat} {e2 e1 : TypeId} {A : Option Addr} {n c : Nat} {vs : List Sl} {zss : List (List Int)}
structure At2 (w : World) (B : Nat) (e2 e1 : TypeId) (A : Option Addr) (n c : Nat) (vs : List Sl) (zss : List (List Int)) (i j g r m k : Nat) : Prop where
  ha : A = some ⟨g, 0, none⟩
  co : w.cell? ⟨g, i, none⟩ = some (.slice (some ⟨r, 0, none⟩) m k)
  fo : w.frozen? ⟨g, i, none⟩ = false
  hm : (row zss i).length = m
  mle : m ≤ k
  k1 : k ≤ 9223372036854775807
  ci : w.cell? ⟨r, j, none⟩ = some (.int .i64 (nth (row zss i) j))
  fi : w.frozen? ⟨r, j, none⟩ = false
  br : B ≤ r
  rl : r < w.heap.size
  iz : I64 (nth (row zss i) j)
  set : ∀ u, I64 u → ORv (w.setCell ⟨r, j, none⟩ (.int .i64 u)) B e2 e1 A n c vs (zss.set i ((row zss i).set j u))
theorem ORv.at2 (h : ORv w B e2 e1 A n c vs zss) {i j : Nat} (hi : i < n) (hj : j < (row zss i).length) : ∃ g r m k, At2 w B e2 e1 A n c vs zss i j g r m k := by
  obtain ⟨g, v, ha, hv, co, fo, hr⟩ := h.get hi
  obtain ⟨r, hr1, ci, fi, iz⟩ := hr.cell (k := j) (by rw [← hr.len]; exact hj)
  have hlt := hr.os.lt (k := r) (by rw [hr1]; rfl)
  refine ⟨g, r, v.2.1, v.2.2, ha, by rw [co, hr1], fo, hr.len, hr.os.cap.1, hr.os.cap.2, ci, fi, hlt.1, hlt.2, iz, fun u hu => ?_⟩
  have h2 : OI w B e1 (some ⟨r, 0, none⟩) v.2.1 v.2.2 (row zss i) := by rw [← hr1]; exact hr
  have h3 := h2.set j hu
  rw [← hr1] at h3
  refine h.wrote hv ?_ h3
  rw [hr1]
  exact ⟨rfl, rfl, rfl, by simp [World.setCell], fun k _ hk => Below.heap_setCell _ _ _ _ (fun e => hk (by rw [e]; rfl))⟩
theorem ORv.keptB {g : Nat} (h : ORv w B e2 e1 A n c vs zss) (hg : w.grownBy w' (some g)) (hb : g < B) : ORv w' B e2 e1 A n c vs zss := by
  have far : ∀ {e : TypeId} {size : Nat} {A : Option Addr} {n c : Nat} {xs : List Value}, OS w B e size A n c xs → blk A = none ∨ blk A ≠ some g := fun {e size A n c xs} ho => by
    cases A with
    | none => exact .inl rfl
    | some a => exact .inr fun e => by have := (ho.lt (k := a.block) rfl).1; simp only [blk, Option.map_some, Option.some.injEq] at e; omega
  refine h.kept hg (far h.os) fun j v hv => ?_
  have hj : j < zss.length := by rw [← h.len]; exact (List.getElem?_eq_some_iff.1 hv).1
  exact far (h.rows j v _ hv (List.getElem?_eq_getElem hj)).os
theorem OI.keptB {g : Nat} {zs : List Int} (h : OI w B e1 A n c zs) (hg : w.grownBy w' (some g)) (hb : g < B) : OI w' B e1 A n c zs :=
  h.kept hg (by
    cases A with
    | none => exact .inl rfl
    | some a => exact .inr fun e => by have := (h.os.lt (k := a.block) rfl).1; simp only [blk, Option.map_some, Option.some.injEq] at e; omega)
end
structure DBs (w wr : World) (g q : Nat) (A : Option Addr) (k c : Nat) (zss : List (List Int)) : Prop where
  o : OR wr w.heap.size 22 2 A k c zss
  s : SrW w wr g q
section
variable {w wr w' : World} {g q q' : Nat} {A : Option Addr} {k c : Nat} {zss : List (List Int)}
end
structure DBv (w wr : World) (g q : Nat) (A : Option Addr) (k c : Nat) (vs : List Sl) (zss : List (List Int)) : Prop where
  o : ORv wr w.heap.size 22 2 A k c vs zss
  s : SrW w wr g q
section
variable {w wr w' : World} {g q q' : Nat} {A : Option Addr} {k c : Nat} {vs : List Sl} {zss : List (List Int)}
theorem DBs.v (h : DBs w wr g q A k c zss) : ∃ vs, DBv w wr g q A k c vs zss := by
  obtain ⟨⟨vs, ho⟩, s⟩ := h
  exact ⟨vs, ho, s⟩
theorem DBv.draw (h : DBv w wr g q A k c vs zss) (hs : Src w' g q') (hg : wr.grownBy w' (some g)) : DBv w w' g q' A k c vs zss := ⟨h.o.keptB hg h.s.gl, h.s.next hs hg⟩
theorem DBv.step (h : DBv w wr g q A k c vs zss) (hb : Below wr.heap.size wr w') : DBv w w' g q A k c vs zss := ⟨h.o.below hb, h.s.step hb⟩
def ApR (vs : List Sl) (Z : Option Addr) (zn zc : Nat) : Prop := ∀ (j : Nat) (u : Sl), vs[j]? = some u → apart u (Z, zn, zc)
theorem DBv.new (h : DBv w wr g q A k c vs zss) {Z : Option Addr} {zn zc : Nat} (hb : ∀ b, blk Z = some b → wr.heap.size ≤ b) : ApR vs Z zn zc := h.o.apart_new (v := (Z, zn, zc)) hb
theorem DBv.push (h : DBv w wr g q A k c vs zss) {A' : Option Addr} {k' c' : Nat} {vs' : List Sl} {zs' : List (List Int)} (ho : ORv w' w.heap.size 22 2 A' k' c' vs' zs') (hg : wr.grownBy w' (blk A)) : DBs w w' g q A' k' c' zs' :=
  ⟨⟨_, ho⟩, h.s.far hg (fun b hb => (h.o.os.lt hb).1)⟩
end
def allocs (w : World) (t : TypeId) : List (List Int) → World
  | [] => w
  | r :: rs => allocs (w.alloc (.cells (ints r).toArray t)) t rs
theorem allocs_size (t : TypeId) : ∀ (rows : List (List Int)) (w : World), (allocs w t rows).heap.size = w.heap.size + rows.length
  | [], w => by simp [allocs]
  | r :: rs, w => by rw [allocs, allocs_size t rs]; simp; omega
theorem allocs_below (t : TypeId) : ∀ (rows : List (List Int)) (w : World), Below w.heap.size w (allocs w t rows)
  | [], w => Below.refl _ _
  | r :: rs, w => (below_alloc w _).trans ((allocs_below t rs _).mono (by simp))
theorem allocs_row (t : TypeId) (B : Nat) : ∀ (rows : List (List Int)) (w : World), B ≤ w.heap.size → (∀ r ∈ rows, All64 r ∧ r.length ≤ 1048576) → ∀ j r, rows[j]? = some r → OI (allocs w t rows) B t (some ⟨w.heap.size + j, 0, none⟩) r.length r.length r
  | [], w, _, _, j, r, h => by simp at h
  | s :: rs, w, hB, ha, 0, r, h => by
    obtain rfl : s = r := by simpa using h
    have := ha s List.mem_cons_self
    have h1 := OI.lit w B t s hB (by omega) this.1
    have h2 := h1.below (allocs_below t rs _)
    simpa [allocs] using h2
  | s :: rs, w, hB, ha, j + 1, r, h => by
    have h1 := allocs_row t B rs (w.alloc (.cells (ints s).toArray t)) (by simp; omega) (fun r hr => ha r (List.mem_cons_of_mem _ hr)) j r (by simpa using h)
    have e : (w.alloc (.cells (ints s).toArray t)).heap.size + j = w.heap.size + (j + 1) := by simp; omega
    rw [e] at h1
    exact h1
def hdrs (b : Nat) : List (List Int) → List Sl
  | [] => []
  | r :: rs => (some ⟨b, 0, none⟩, r.length, r.length) :: hdrs (b + 1) rs
theorem hdrs_len : ∀ (rows : List (List Int)) (b : Nat), (hdrs b rows).length = rows.length
  | [], _ => rfl
  | r :: rs, b => by simp [hdrs, hdrs_len rs]
theorem hdrs_at : ∀ (rows : List (List Int)) (b j : Nat) (v : Sl) (r : List Int), (hdrs b rows)[j]? = some v → rows[j]? = some r → v = (some ⟨b + j, 0, none⟩, r.length, r.length)
  | [], _, _, _, _, h, _ => by simp [hdrs] at h
  | s :: rs, b, 0, v, r, h, k => by
    obtain rfl : s = r := by simpa using k
    simpa [hdrs] using h.symm
  | s :: rs, b, j + 1, v, r, h, k => by
    have := hdrs_at rs (b + 1) j v r (by simpa [hdrs] using h) (by simpa using k)
    rw [this, show b + 1 + j = b + (j + 1) by omega]
theorem lit_OB (w : World) (B : Nat) (rows : List (List Int)) (hB : B ≤ w.heap.size) (hl : rows.length ≤ 1048576) (ha : ∀ r ∈ rows, All64 r ∧ r.length ≤ 1048576) :
    OB ((allocs w 2 rows).alloc (.cells ((hdrs w.heap.size rows).map slv).toArray 22)) B (some ⟨w.heap.size + rows.length, 0, none⟩) rows.length rows.length (hdrs w.heap.size rows) rows := by
  have hs := allocs_size 2 rows w
  refine ⟨?_, hdrs_len _ _, fun j v z hv hz => ?_⟩
  · have := OS.lit (allocs w 2 rows) B 22 1 rows.length ((hdrs w.heap.size rows).map slv).toArray (by omega) (by simp [hdrs_len]) (by omega)
    rw [hs] at this
    simpa using this
  · rw [hdrs_at rows _ j v z hv hz]
    exact (allocs_row 2 B rows w hB ha j z hz).below (below_alloc _ _)
set_option maxHeartbeats 400000 in
theorem v8Long_no (A : Option Addr) (n c : Nat) (B : Option Addr) (m d : Nat) (w : World) (hn : n ≤ 1048576) (hm : m ≤ 1048576) : Calls Tryz.prog 12 #[.slice A n c, .slice B m d] w fun e w' => e = .returned (.bool false) ∧ w = w' := by
  have h : ¬ (n : Int) > 1048576 := by omega
  have h2 : ¬ (m : Int) > 1048576 := by omega
  go_enter Tryz.func12, Tryz.ntmps12
  go_wp2
  go_ret
  exact ⟨rfl, rfl⟩
set_option maxHeartbeats 400000 in
theorem v8Long_one (A : Option Addr) (n c : Nat) (B : Option Addr) (m d : Nat) (w : World) (hn : 1048576 < n) : Calls Tryz.prog 12 #[.slice A n c, .slice B m d] w fun e w' => e = .returned (.bool true) ∧ w = w' := by
  have h : (n : Int) > 1048576 := by omega
  go_enter Tryz.func12, Tryz.ntmps12
  go_wp2
  go_ret
  exact ⟨rfl, rfl⟩
set_option maxHeartbeats 400000 in
theorem v8Long_two (A : Option Addr) (n c : Nat) (B : Option Addr) (m d : Nat) (w : World) (hn : n ≤ 1048576) (hm : 1048576 < m) : Calls Tryz.prog 12 #[.slice A n c, .slice B m d] w fun e w' => e = .returned (.bool true) ∧ w = w' := by
  have h : ¬ (n : Int) > 1048576 := by omega
  have h2 : (m : Int) > 1048576 := by omega
  go_enter Tryz.func12, Tryz.ntmps12
  go_wp2
  go_ret
  exact ⟨rfl, rfl⟩
set_option maxHeartbeats 1000000 in
theorem v8At_any (A : Option Addr) (n c : Nat) (zs : List Int) (i : Nat) (k : Int) (w : World) (ha : RS EByte w A n zs) (hi2 : i ≤ 1000000) (hk1 : 1 ≤ k) (hk2 : k ≤ 1000000) (hn : n ≤ 9223372036854775807) :
    Calls Tryz.prog 15 #[.slice A n c, .int .i64 i, .int .i64 k] w fun e w' => (∃ x : Int, e = .returned (.int .i64 x) ∧ 0 ≤ x ∧ x < k) ∧ w = w' := by
  by_cases h0 : k ≤ 1
  · go_enter Tryz.func15, Tryz.ntmps15
    go_wp2
    go_ret
    exact ⟨⟨0, rfl, by omega, by omega⟩, rfl⟩
  · by_cases hlt : i < n
    · obtain ⟨ad, u, x, rfl, hx, hc, rfl, x0, x1⟩ := ha.get hlt
      have h0' : 1 < k := by omega
      have hlt' : ¬ (n : Int) ≤ i := by omega
      have HM := Lib.hid (show 0 ≤ x % k ∧ x % k < k from ⟨Int.emod_nonneg _ (by omega), Int.emod_lt_of_pos _ (by omega)⟩)
      clear hx h0
      go_enter Tryz.func15, Tryz.ntmps15
      go_wp2
      go_ret
      exact ⟨⟨x % k, rfl, HM.out.1, HM.out.2⟩, rfl⟩
    · have h0' : 1 < k := by omega
      have hge : (n : Int) ≤ i := by omega
      clear h0
      go_enter Tryz.func15, Tryz.ntmps15
      go_wp2
      go_ret
      exact ⟨⟨0, rfl, by omega, by omega⟩, rfl⟩
theorem dsC_nthE {v m j : Nat} (h : j < v + m) : nth (dsC v m) j = if j < v then 0 else 1 := by
  rw [nth_get (by rw [dsC_len]; exact h)]
  unfold dsC
  rw [List.getElem_append]
  simp only [List.length_replicate, List.getElem_replicate]
  split <;> rfl
theorem nth_zero_cons (x : Int) (l : List Int) : nth (x :: l) 0 = x := rfl
theorem nth_succ_cons (x : Int) (l : List Int) (k : Nat) : nth (x :: l) (k + 1) = nth l k := by simp [nth]
theorem row_succ_cons (x : List Int) (l : List (List Int)) (k : Nat) : row (x :: l) (k + 1) = row l k := by simp [row]
theorem nth_mapS {l : List Int} {f : Int → Int} {k : Nat} (h : k < l.length) : nth (l.map f) k = f (nth l k) := by
  rw [nth_get (by simpa using h), nth_get h, List.getElem_map]
theorem perm_places {l m : List (List Int)} (h : l.Perm m) : ∃ s : List Int, Perm s ∧ s.length = l.length ∧ ∀ i, i < l.length → row m (nth s i).toNat = row l i := by
  induction h with
  | nil => exact ⟨[], ⟨fun k hk => absurd hk (by simp), fun i j _ hj => absurd hj (by simp)⟩, rfl, fun i hi => absurd hi (by simp)⟩
  | @cons x l m h ih =>
    obtain ⟨s, hs, hl, hr⟩ := ih
    refine ⟨0 :: s.map (· + 1), perm_of (n := l.length + 1) (by simp [hl]) (fun v hv => ?_) (fun u v hu hv e => ?_), by simp [hl], fun i hi => ?_⟩
    · cases v with
      | zero => rw [nth_zero_cons]; omega
      | succ v =>
        rw [nth_succ_cons, nth_mapS (by omega)]
        have := hs.bd v (by omega)
        omega
    · cases u with
      | zero =>
        cases v with
        | zero => rfl
        | succ v =>
          rw [nth_zero_cons, nth_succ_cons, nth_mapS (by omega)] at e
          have := hs.bd v (by omega)
          omega
      | succ u =>
        cases v with
        | zero =>
          rw [nth_zero_cons, nth_succ_cons, nth_mapS (by omega)] at e
          have := hs.bd u (by omega)
          omega
        | succ v =>
          rw [nth_succ_cons, nth_succ_cons, nth_mapS (by omega), nth_mapS (by omega)] at e
          have := perm_inj hs (i := u) (j := v) (by omega) (by omega) (by omega)
          omega
    · cases i with
      | zero => rfl
      | succ i =>
        simp only [List.length_cons] at hi
        rw [nth_succ_cons, nth_mapS (by omega), row_succ_cons, ← hr i (by omega)]
        have := hs.bd i (by omega)
        rw [show (nth s i + 1).toNat = (nth s i).toNat + 1 by omega, row_succ_cons]
  | @swap x y l =>
    refine ⟨1 :: 0 :: (iotaP l.length).map (· + 2), perm_of (n := l.length + 2) (by simp [iotaP_len]) (fun v hv => ?_) (fun u v hu hv e => ?_), by simp [iotaP_len], fun i hi => ?_⟩
    · rcases v with _ | _ | v
      · rw [nth_zero_cons]; omega
      · rw [nth_succ_cons, nth_zero_cons]; omega
      · rw [nth_succ_cons, nth_succ_cons, nth_mapS (by rw [iotaP_len]; omega), iotaP_nth (by omega)]; omega
    · rcases u with _ | _ | u <;> rcases v with _ | _ | v <;> simp only [nth_zero_cons, nth_succ_cons] at e <;> first | rfl | (rw [nth_mapS (by rw [iotaP_len]; omega), iotaP_nth (by omega)] at e; omega) | skip
      · omega
      · omega
      · rw [nth_mapS (by rw [iotaP_len]; omega), iotaP_nth (by omega), nth_mapS (by rw [iotaP_len]; omega), iotaP_nth (by omega)] at e
        omega
    · rcases i with _ | _ | i
      · rfl
      · rfl
      · simp only [List.length_cons] at hi
        rw [nth_succ_cons, nth_succ_cons, nth_mapS (by rw [iotaP_len]; omega), iotaP_nth (by omega)]
        rw [show ((i : Int) + 2).toNat = i + 1 + 1 by omega]
        rfl
  | @trans a b c h1 h2 i1 i2 =>
    obtain ⟨s, hs, hl, hr⟩ := i1
    obtain ⟨t, ht, hm, hq⟩ := i2
    have hlen := h1.length_eq
    refine ⟨thenP s t, thenP_perm hs ht (by omega), by rw [thenP_len, hl], fun i hi => ?_⟩
    have b := perm_lt hs (v := i) (by omega)
    rw [thenP_nth (by omega), hq _ (by omega), hr i hi]
theorem imgR_has {V : Nat} {a z : List Int} (ha : PermN V a) (hz : ∀ x ∈ z, 0 ≤ x ∧ x < (V : Int)) {x : Nat} (hx : x < V) : nth a x ∈ imgR a z ↔ (x : Int) ∈ z := by
  rw [imgR_mem]
  constructor
  · rintro ⟨y, hy, e⟩
    have := hz y hy
    have := perm_inj ha.2 (by rw [ha.1]; omega) (by rw [ha.1]; omega) e
    rw [show (x : Int) = y by omega]
    exact hy
  · intro h
    exact ⟨x, h, by simp⟩
/-! the graph of the image -/
theorem nb_ds {V : Nat} {bs : List (List Int)} {x y : Nat} : nbB (dsE V bs V) x y = true ↔ (x < V ∧ V ≤ y ∧ y < V + bs.length ∧ (x : Int) ∈ row bs (y - V)) ∨ (y < V ∧ V ≤ x ∧ x < V + bs.length ∧ (y : Int) ∈ row bs (x - V)) := by
  unfold nbB
  rw [List.any_eq_true]
  constructor
  · rintro ⟨e, he, hn⟩
    obtain ⟨u, i, hu, hi, hin, rfl⟩ := (dsE_mem e).1 he
    simp only [Bool.or_eq_true, Bool.and_eq_true, beq_iff_eq] at hn
    rcases hn with ⟨h1, h2⟩ | ⟨h1, h2⟩
    · obtain rfl : u = x := by omega
      obtain rfl : y = V + i := by omega
      exact .inl ⟨hu, by omega, by omega, by rw [show V + i - V = i by omega]; exact hin⟩
    · obtain rfl : u = y := by omega
      obtain rfl : x = V + i := by omega
      exact .inr ⟨hu, by omega, by omega, by rw [show V + i - V = i by omega]; exact hin⟩
  · rintro (⟨h1, h2, h3, h4⟩ | ⟨h1, h2, h3, h4⟩)
    · exact ⟨_, (dsE_mem _).2 ⟨x, y - V, h1, by omega, h4, rfl⟩, by simp; left; omega⟩
    · exact ⟨_, (dsE_mem _).2 ⟨y, x - V, h1, by omega, h4, rfl⟩, by simp; right; omega⟩
def extP (V : Nat) (a s : List Int) : List Int := a ++ s.map (· + (V : Int))
theorem extP_low {V : Nat} {a s : List Int} (ha : a.length = V) {x : Nat} (hx : x < V) : nth (extP V a s) x = nth a x := by
  rw [nth_get (by simp [extP]; omega), nth_get (by omega)]
  unfold extP
  rw [List.getElem_append_left (by omega)]
theorem extP_high {V : Nat} {a s : List Int} (ha : a.length = V) {i : Nat} (hi : i < s.length) : nth (extP V a s) (V + i) = nth s i + V := by
  rw [nth_get (by simp [extP]; omega), nth_get hi]
  unfold extP
  rw [List.getElem_append_right (by omega), List.getElem_map]
  simp [ha]
theorem ext_iso {V : Nat} {a : List Int} {bs es : List (List Int)} (h : ∀ z ∈ bs, ∀ x ∈ z, 0 ≤ x ∧ x < (V : Int)) (ha : PermN V a) (hp : es.Perm (bs.map (imgR a))) :
    ∃ q, Iso (V + bs.length) (dsE V bs V) (dsE V es V) q ∧ dsC V bs.length = thenP q (dsC V bs.length) ∧ q.take V = a := by
  obtain ⟨s, hs, hl, hr⟩ := perm_places hp.symm
  have hle : es.length = bs.length := by rw [hp.length_eq, List.length_map]
  rw [List.length_map] at hl hr
  have low : ∀ {x}, x < V → nth (extP V a s) x = nth a x ∧ 0 ≤ nth a x ∧ nth a x < (V : Int) := fun {x} hx => by
    have := ha.2.bd x (by rw [ha.1]; exact hx)
    rw [ha.1] at this
    exact ⟨extP_low ha.1 hx, this⟩
  have high : ∀ {i}, i < bs.length → nth (extP V a s) (V + i) = nth s i + V ∧ 0 ≤ nth s i ∧ nth s i < (bs.length : Int) := fun {i} hi => by
    have := hs.bd i (by omega)
    rw [hl] at this
    exact ⟨extP_high ha.1 (by omega), this⟩
  have hlen : (extP V a s).length = V + bs.length := by simp [extP, ha.1, hl]
  have hP : Perm (extP V a s) := by
    refine perm_of hlen (fun v hv => ?_) (fun u v hu hv e => ?_)
    · rcases Nat.lt_or_ge v V with h1 | h1
      · have := low h1; omega
      · have := high (i := v - V) (by omega)
        rw [show V + (v - V) = v by omega] at this
        omega
    · rcases Nat.lt_or_ge u V with h1 | h1 <;> rcases Nat.lt_or_ge v V with h2 | h2
      · have a1 := low h1; have a2 := low h2
        exact perm_inj ha.2 (by rw [ha.1]; exact h1) (by rw [ha.1]; exact h2) (by omega)
      · have a1 := low h1
        have a2 := high (i := v - V) (by omega)
        rw [show V + (v - V) = v by omega] at a2
        omega
      · have a1 := low h2
        have a2 := high (i := u - V) (by omega)
        rw [show V + (u - V) = u by omega] at a2
        omega
      · have a1 := high (i := u - V) (by omega)
        have a2 := high (i := v - V) (by omega)
        rw [show V + (u - V) = u by omega] at a1
        rw [show V + (v - V) = v by omega] at a2
        have := perm_inj hs (i := u - V) (j := v - V) (by omega) (by omega) (by omega)
        omega
  have key : ∀ {x i : Nat}, x < V → i < bs.length → (nth a x ∈ row es (nth s i).toNat ↔ (x : Int) ∈ row bs i) := fun {x i} hx hi => by
    rw [hr i hi, row_get (by simpa using hi), List.getElem_map, imgR_has ha (h _ (List.getElem_mem _)) hx, row_get hi]
  have cross : ∀ {x y : Nat}, x < V → V ≤ y → y < V + bs.length → (nbB (dsE V es V) (nth (extP V a s) x).toNat (nth (extP V a s) y).toNat = true ↔ nbB (dsE V bs V) x y = true) := fun {x y} hx hy hy2 => by
    have a1 := low hx
    have a2 := high (i := y - V) (by omega)
    rw [show V + (y - V) = y by omega] at a2
    rw [nb_ds, nb_ds, a1.1, a2.1, ← key hx (show y - V < bs.length by omega)]
    rw [show (nth s (y - V) + V).toNat - V = (nth s (y - V)).toNat by omega, show (((nth a x).toNat : Nat) : Int) = nth a x by omega]
    constructor
    · rintro (⟨_, _, _, h4⟩ | ⟨h1, _⟩)
      · exact .inl ⟨hx, hy, hy2, h4⟩
      · omega
    · rintro (⟨_, _, _, h4⟩ | ⟨h1, _⟩)
      · exact .inl ⟨by omega, by omega, by omega, h4⟩
      · omega
  refine ⟨extP V a s, ⟨hP, hlen, fun x y hx hy => ?_⟩, ?_, ?_⟩
  · rw [Bool.eq_iff_iff]
    rcases Nat.lt_or_ge x V with h1 | h1 <;> rcases Nat.lt_or_ge y V with h2 | h2
    · have a1 := low h1; have a2 := low h2
      rw [nb_ds, nb_ds]
      omega
    · exact cross h1 h2 hy
    · rw [nbB_symm, nbB_symm (dsE V bs V)]
      exact cross h2 h1 hx
    · have a1 := high (i := x - V) (by omega)
      have a2 := high (i := y - V) (by omega)
      rw [show V + (x - V) = x by omega] at a1
      rw [show V + (y - V) = y by omega] at a2
      rw [nb_ds, nb_ds]
      omega
  · refine nth_ext (by rw [dsC_len, thenP_len, hlen]) fun x hx => ?_
    rw [dsC_len] at hx
    rw [thenP_nth (by omega), dsC_nthE hx]
    rcases Nat.lt_or_ge x V with h1 | h1
    · have a1 := low h1
      rw [dsC_nthE (by omega), if_pos h1, if_pos (by omega)]
    · have a1 := high (i := x - V) (by omega)
      rw [show V + (x - V) = x by omega] at a1
      rw [dsC_nthE (by omega), if_neg (by omega), if_neg (by omega)]
  · unfold extP
    rw [List.take_append_of_le_length (by rw [ha.1]; exact Nat.le_refl _), List.take_of_length_le (by rw [ha.1]; exact Nat.le_refl _)]
def Bv (n : Nat) (v : List Int) : Prop := v.length = n ∧ ∀ i, i < n → nth v i = 0 ∨ nth v i = 1
def xorL (v w : List Int) : List Int := (List.range v.length).map fun i => (nth v i + nth w i) % 2
theorem xorL_len (v w : List Int) : (xorL v w).length = v.length := by simp [xorL]
theorem xorL_nth (v w : List Int) {i : Nat} (h : i < v.length) : nth (xorL v w) i = (nth v i + nth w i) % 2 := by
  unfold xorL
  rw [nth_map_range, if_pos h]
def zeroV (n : Nat) : List Int := List.replicate n 0
theorem zeroV_nth (n i : Nat) : nth (zeroV n) i = 0 := by
  unfold zeroV nth
  rw [List.getD_eq_getElem?_getD, List.getElem?_replicate]
  split <;> rfl
theorem zeroV_len (n : Nat) : (zeroV n).length = n := by simp [zeroV]
theorem Bv.zero (n : Nat) : Bv n (zeroV n) := ⟨zeroV_len n, fun i _ => .inl (zeroV_nth n i)⟩
theorem bv_ext {n : Nat} {v w : List Int} (hv : v.length = n) (hw : w.length = n) (h : ∀ i, i < n → nth v i = nth w i) : v = w :=
  nth_ext (by omega) fun i hi => h i (by omega)
section
variable {n : Nat} {u v w : List Int}
theorem Bv.xor (hv : Bv n v) (w : List Int) : Bv n (xorL v w) := ⟨by rw [xorL_len, hv.1], fun i hi => by
  rw [xorL_nth v w (by rw [hv.1]; exact hi)]
  have := Int.emod_nonneg (nth v i + nth w i) (show (2 : Int) ≠ 0 by decide)
  have := Int.emod_lt_of_pos (nth v i + nth w i) (show (0 : Int) < 2 by decide)
  omega⟩
theorem xor_zero (hv : Bv n v) : xorL v (zeroV n) = v := bv_ext (by rw [xorL_len, hv.1]) hv.1 fun i hi => by
  rw [xorL_nth v _ (by rw [hv.1]; exact hi), zeroV_nth]
  have := hv.2 i hi
  omega
theorem zero_xor (hv : Bv n v) : xorL (zeroV n) v = v := bv_ext (by rw [xorL_len, zeroV_len]) hv.1 fun i hi => by
  rw [xorL_nth _ v (by rw [zeroV_len]; exact hi), zeroV_nth]
  have := hv.2 i hi
  omega
theorem xor_cancel (hv : Bv n v) (w : List Int) : xorL (xorL v w) w = v := bv_ext (by rw [xorL_len, xorL_len, hv.1]) hv.1 fun i hi => by
  rw [xorL_nth _ w (by rw [xorL_len, hv.1]; exact hi), xorL_nth v w (by rw [hv.1]; exact hi)]
  have := hv.2 i hi
  omega
theorem xor_right_comm (hu : Bv n u) (v w : List Int) : xorL (xorL u v) w = xorL (xorL u w) v := bv_ext (n := n) (by rw [xorL_len, xorL_len, hu.1]) (by rw [xorL_len, xorL_len, hu.1]) fun i hi => by
  rw [xorL_nth _ w (by rw [xorL_len, hu.1]; exact hi), xorL_nth u v (by rw [hu.1]; exact hi), xorL_nth _ v (by rw [xorL_len, hu.1]; exact hi), xorL_nth u w (by rw [hu.1]; exact hi)]
  omega
theorem xor_assoc (hu : Bv n u) (hv : Bv n v) (w : List Int) : xorL (xorL u v) w = xorL u (xorL v w) := bv_ext (n := n) (by rw [xorL_len, xorL_len, hu.1]) (by rw [xorL_len, hu.1]) fun i hi => by
  rw [xorL_nth _ w (by rw [xorL_len, hu.1]; exact hi), xorL_nth u v (by rw [hu.1]; exact hi), xorL_nth u _ (by rw [hu.1]; exact hi), xorL_nth v w (by rw [hv.1]; exact hi)]
  omega
end
inductive InS (n : Nat) (R : List (List Int)) : List Int → Prop where
  | zero : InS n R (zeroV n)
  | add {v r : List Int} : InS n R v → r ∈ R → InS n R (xorL v r)
def AllB (n : Nat) (R : List (List Int)) : Prop := ∀ r ∈ R, Bv n r
section
variable {n : Nat} {R S : List (List Int)} {v w : List Int}
theorem InS.bv (h : InS n R v) : Bv n v := by
  induction h with
  | zero => exact Bv.zero n
  | add _ _ ih => exact ih.xor _
theorem InS.row (hR : AllB n R) {r : List Int} (h : r ∈ R) : InS n R r := by
  have := InS.add (InS.zero (n := n) (R := R)) h
  rwa [zero_xor (hR r h)] at this
theorem InS.xor (hv : InS n R v) (hw : InS n R w) : InS n R (xorL v w) := by
  induction hw with
  | zero => rw [xor_zero hv.bv]; exact hv
  | add h hr ih =>
    rw [← xor_assoc hv.bv h.bv]
    exact ih.add hr
theorem InS.into (h : ∀ r ∈ R, InS n S r) (hv : InS n R v) : InS n S v := by
  induction hv with
  | zero => exact .zero
  | add _ hr ih => exact ih.xor (h _ hr)
theorem InS.more (h : ∀ r ∈ R, r ∈ S) (hv : InS n R v) : InS n S v := by
  induction hv with
  | zero => exact .zero
  | add _ hr ih => exact ih.add (h _ hr)
end
def wB (n : Nat) (R : List (List Int)) : Nat → List (List Int)
  | 0 => [zeroV n]
  | j + 1 => (wB n R j).flatMap fun w => [w, xorL w (row R j)]
theorem mem_row {R : List (List Int)} {j : Nat} (h : j < R.length) : row R j ∈ R := by rw [row_get h]; exact List.getElem_mem h
theorem mem_take_row {R : List (List Int)} {i j : Nat} (h : i < j) (hj : j ≤ R.length) : row R i ∈ R.take j := by
  rw [row_get (by omega)]
  exact List.mem_take_iff_getElem.2 ⟨i, by omega, rfl⟩
theorem take_cases {R : List (List Int)} {j : Nat} (hj : j < R.length) {r : List Int} (h : r ∈ R.take (j + 1)) : r ∈ R.take j ∨ r = row R j := by
  rw [List.take_succ_eq_append_getElem hj, List.mem_append, List.mem_singleton] at h
  rw [row_get hj]
  exact h
theorem wB_mem {n : Nat} {R : List (List Int)} (hR : AllB n R) : ∀ {j : Nat}, j ≤ R.length → ∀ v, v ∈ wB n R j ↔ InS n (R.take j) v
  | 0, _, v => by
    rw [wB, List.mem_singleton, List.take_zero]
    constructor
    · rintro rfl; exact .zero
    · intro h
      cases h with
      | zero => rfl
      | add _ hr => cases hr
  | j + 1, hj, v => by
    have ih := fun v => wB_mem hR (j := j) (by omega) v
    have hb := hR _ (mem_row (R := R) (j := j) (by omega))
    rw [wB, List.mem_flatMap]
    constructor
    · rintro ⟨w, hw, hv⟩
      have h1 : InS n (R.take (j + 1)) w := ((ih w).1 hw).more fun r hr => by
        rw [List.take_succ_eq_append_getElem (by omega)]
        exact List.mem_append_left _ hr
      rcases List.mem_cons.1 hv with rfl | hv
      · exact h1
      · rw [List.mem_singleton.1 hv]
        exact h1.add (mem_take_row (Nat.lt_succ_self j) hj)
    · intro h
      have key : ∃ w, InS n (R.take j) w ∧ (v = w ∨ v = xorL w (row R j)) := by
        induction h with
        | zero => exact ⟨zeroV n, .zero, .inl rfl⟩
        | @add v r h hr ih2 =>
          obtain ⟨w, hw, e⟩ := ih2
          rcases take_cases (by omega) hr with h1 | rfl
          · refine ⟨xorL w r, hw.add h1, ?_⟩
            rcases e with rfl | rfl
            · exact .inl rfl
            · exact .inr (xor_right_comm hw.bv _ _)
          · refine ⟨w, hw, ?_⟩
            rcases e with rfl | rfl
            · exact .inr rfl
            · exact .inl (xor_cancel hw.bv _)
      obtain ⟨w, hw, e⟩ := key
      exact ⟨w, (ih w).2 hw, by rcases e with rfl | rfl <;> simp⟩
theorem wB_all {n : Nat} {R : List (List Int)} (hR : AllB n R) (v : List Int) : v ∈ wB n R R.length ↔ InS n R v := by
  rw [wB_mem hR (Nat.le_refl _), List.take_length]
theorem wB_len (n : Nat) (R : List (List Int)) : ∀ j, (wB n R j).length = 2 ^ j
  | 0 => rfl
  | j + 1 => by
    rw [wB, flatMap_len (q := 2) (fun w => rfl), wB_len n R j, Nat.pow_succ]
theorem wB_head (n : Nat) (R : List (List Int)) : ∀ j, ∃ L, wB n R j = zeroV n :: L
  | 0 => ⟨[], rfl⟩
  | j + 1 => by
    obtain ⟨L, e⟩ := wB_head n R j
    exact ⟨_, by rw [wB, e, List.flatMap_cons]; rfl⟩
/-! the field of two elements -/
theorem two_f {f : List Int} (h : FldOk 2 1 f) : f = [0, 1] ∨ f = [1, 1] := by
  have hl := h.len
  have hm := h.mon
  have hd := h.dg 0
  match f, hl with
  | [a, b], _ =>
    have e1 : nth [a, b] 1 = b := rfl
    have e0 : nth [a, b] 0 = a := rfl
    rw [e1] at hm
    rw [e0] at hd
    have : a = 0 ∨ a = 1 := by omega
    rcases this with rfl | rfl <;> simp [hm]
theorem mul_two {f : List Int} (h : FldOk 2 1 f) {a b : Int} (ha : a = 0 ∨ a = 1) (hb : b = 0 ∨ b = 1) : mulP 2 1 f a b = a * b := by
  rcases two_f h with rfl | rfl <;> rcases ha with rfl | rfl <;> rcases hb with rfl | rfl <;> decide +kernel
theorem sum_two {a b : Int} (ha : a = 0 ∨ a = 1) (hb : b = 0 ∨ b = 1) : sumP 2 1 1 a b = (a + b) % 2 := by
  rcases ha with rfl | rfl <;> rcases hb with rfl | rfl <;> decide +kernel
theorem sub_two {a b : Int} (ha : a = 0 ∨ a = 1) (hb : b = 0 ∨ b = 1) : sumP 2 1 (2 - 1) a b = (a + b) % 2 := by
  rcases ha with rfl | rfl <;> rcases hb with rfl | rfl <;> decide +kernel
theorem inv_two {f : List Int} (h : FldOk 2 1 f) : finv 2 1 f 1 = 1 := by
  obtain ⟨h1, h2, -⟩ := finv_ok h (a := 1) (by decide) (by decide)
  have : (2 : Int) ^ 1 = 2 := rfl
  omega
section
variable {n : Nat} {f v w : List Int}
theorem scale_one (h : FldOk 2 1 f) (hv : Bv n v) : scaleR 2 1 f 1 v = v := bv_ext (n := n) (by rw [wscale_len, hv.1]) hv.1 fun i hi => by
  rw [scaleR_nth _ _ _ _ (by rw [hv.1]; exact hi), mul_two h (hv.2 i hi) (.inr rfl), Int.mul_one]
theorem scale_nil (h : FldOk 2 1 f) (hv : Bv n v) : scaleR 2 1 f 0 v = zeroV n := bv_ext (n := n) (by rw [wscale_len, hv.1]) (zeroV_len n) fun i hi => by
  rw [scaleR_nth _ _ _ _ (by rw [hv.1]; exact hi), mul_two h (hv.2 i hi) (.inl rfl), Int.mul_zero, zeroV_nth]
theorem plus_two (hv : Bv n v) (hw : Bv n w) : plusR 2 1 v w = xorL v w := bv_ext (n := n) (by rw [plusR_len, hv.1]) (by rw [xorL_len, hv.1]) fun i hi => by
  rw [plusR_nth _ _ _ _ (by rw [hv.1]; exact hi), xorL_nth _ _ (by rw [hv.1]; exact hi), sum_two (hv.2 i hi) (hw.2 i hi)]
theorem less_one (h : FldOk 2 1 f) (hv : Bv n v) (hw : Bv n w) : lessR 2 1 f v w 1 = xorL v w := by
  refine bv_ext (n := n) (by simp [lessR, hv.1]) (by rw [xorL_len, hv.1]) fun i hi => ?_
  unfold lessR
  rw [nth_map_range, if_pos (by rw [hv.1]; exact hi), xorL_nth _ _ (by rw [hv.1]; exact hi), mul_two h (hw.2 i hi) (.inr rfl), Int.mul_one, sub_two (hv.2 i hi) (hw.2 i hi)]
theorem less_nil (h : FldOk 2 1 f) (hv : Bv n v) (hw : Bv n w) : lessR 2 1 f v w 0 = v := by
  refine bv_ext (n := n) (by simp [lessR, hv.1]) hv.1 fun i hi => ?_
  unfold lessR
  rw [nth_map_range, if_pos (by rw [hv.1]; exact hi), mul_two h (hw.2 i hi) (.inl rfl), Int.mul_zero, sub_two (hv.2 i hi) (.inl rfl)]
  have := hv.2 i hi
  omega
end
theorem words_two {n : Nat} {f : List Int} (h : FldOk 2 1 f) {R : List (List Int)} (hR : AllB n R) : ∀ {j : Nat}, j ≤ R.length → wordsTo 2 1 f 2 n R j = wB n R j
  | 0, _ => rfl
  | j + 1, hj => by
    have hb := hR _ (mem_row (R := R) (j := j) (by omega))
    rw [wordsTo, wB, words_two h hR (by omega)]
    have key : ∀ L : List (List Int), (∀ w ∈ L, Bv n w) → L.flatMap (fun w => sumsR 2 1 f 2 (row R j) w) = L.flatMap fun w => [w, xorL w (row R j)] := fun L hL => by
      induction L with
      | nil => rfl
      | cons w L ih =>
        rw [List.flatMap_cons, List.flatMap_cons, ih fun x hx => hL x (List.mem_cons_of_mem _ hx)]
        congr 1
        have hw := hL w List.mem_cons_self
        show [plusR 2 1 w (scaleR 2 1 f ((0 : Nat) : Int) (row R j)), plusR 2 1 w (scaleR 2 1 f ((1 : Nat) : Int) (row R j))] = _
        rw [show ((0 : Nat) : Int) = 0 from rfl, show ((1 : Nat) : Int) = 1 from rfl, scale_nil h hb, scale_one h hb, plus_two hw (Bv.zero n), plus_two hw hb, xor_zero hw]
    exact key _ fun w hw => ((wB_mem hR (by omega) w).1 hw).bv
theorem elim_row (p : Int) (k : Nat) (f : List Int) (top : Nat) (r : List Int) (c : Nat) (rows : List (List Int)) : ∀ j, j ≤ rows.length → ∀ i, i < j →
    row (elimTo p k f top r c rows j) i = if i = top then row rows i else lessR p k f (row rows i) r (nth (row rows i) c)
  | 0, _, i, hi => absurd hi (by omega)
  | j + 1, hj, i, hi => by
    have ih := elim_row p k f top r c rows j (by omega)
    rw [elimTo]
    split
    · rename_i e
      subst e
      by_cases e2 : i = j
      · subst e2
        rw [if_pos rfl, elimTo_later p k f i r c rows (Nat.le_refl _) (by omega)]
      · exact ih i (by omega)
    · rename_i e
      rw [row_setR (by rw [elimTo_len]; omega)]
      by_cases e2 : i = j
      · subst e2
        rw [if_pos rfl, if_neg e, elimTo_later p k f top r c rows (Nat.le_refl _) (by omega)]
      · rw [if_neg e2]
        exact ih i (by omega)
def swB (M : List (List Int)) (pv top i : Nat) : List Int := if i = pv then row M top else row M i
section
variable {n : Nat} {f : List Int} {M : List (List Int)}
theorem row_bv (hM : AllB n M) {i : Nat} (h : i < M.length) : Bv n (row M i) := hM _ (mem_row h)
theorem swB_bv (hM : AllB n M) {pv top i : Nat} (ht : top < M.length) (hi : i < M.length) : Bv n (swB M pv top i) := by
  unfold swB
  split
  · exact row_bv hM ht
  · exact row_bv hM hi
theorem piv_one (hM : AllB n M) {c top : Nat} (hc : c < n) (ht : top < M.length) (hp : pivAt M c top < M.length) : nth (row M (pivAt M c top)) c = 1 := by
  have h1 := pivAt_ne (rows := M) (c := c) (top := top) (by omega) hp
  have h2 := (row_bv hM hp).2 c hc
  omega
theorem step_row (h : FldOk 2 1 f) (hM : AllB n M) {c top : Nat} (hc : c < n) (ht : top < M.length) (hp : pivAt M c top < M.length) {i : Nat} (hi : i < M.length) :
    row (stepR 2 1 f M c top) i = if i = top then row M (pivAt M c top) else if nth (swB M (pivAt M c top) top i) c = 1 then xorL (swB M (pivAt M c top) top i) (row M (pivAt M c top)) else swB M (pivAt M c top) top i := by
  have hl : leadR 2 1 f M c (pivAt M c top) = row M (pivAt M c top) := by
    unfold leadR
    rw [piv_one hM hc ht hp, inv_two h, scale_one h (row_bv hM hp)]
  have hr : ∀ j, j < M.length → row ((M.set (pivAt M c top) (row M top)).set top (row M (pivAt M c top))) j = if j = top then row M (pivAt M c top) else swB M (pivAt M c top) top j := fun j hj => by
    rw [row_setR (by rw [List.length_set]; exact ht), row_setR hp]
    rfl
  unfold stepR
  rw [hl, elim_row 2 1 f top _ c _ _ (by rw [List.length_set, List.length_set]; exact Nat.le_refl _) i hi, hr i hi]
  by_cases e : i = top
  · rw [if_pos e, if_pos e]
    rw [if_pos e]
  · rw [if_neg e, if_neg e, if_neg e]
    have hb := swB_bv hM (pv := pivAt M c top) ht hi
    rcases hb.2 c hc with h0 | h1
    · rw [h0, less_nil h hb (row_bv hM hp), if_neg (by decide)]
    · rw [h1, less_one h hb (row_bv hM hp), if_pos rfl]
theorem all_of_rows {R : List (List Int)} (h : ∀ i, i < R.length → Bv n (row R i)) : AllB n R := fun r hr => by
  obtain ⟨i, hi, rfl⟩ := List.mem_iff_getElem.1 hr
  rw [← row_get hi]
  exact h i hi
theorem step_bv (h : FldOk 2 1 f) (hM : AllB n M) {c top : Nat} (hc : c < n) (ht : top < M.length) (hp : pivAt M c top < M.length) : AllB n (stepR 2 1 f M c top) := all_of_rows fun i hi => by
  rw [stepR_len] at hi
  rw [step_row h hM hc ht hp hi]
  split
  · exact row_bv hM hp
  · split
    · exact (swB_bv hM ht hi).xor _
    · exact swB_bv hM ht hi
theorem step_span (h : FldOk 2 1 f) (hM : AllB n M) {c top : Nat} (hc : c < n) (ht : top < M.length) (hp : pivAt M c top < M.length) (v : List Int) : InS n (stepR 2 1 f M c top) v ↔ InS n M v := by
  have hM2 := step_bv h hM hc ht hp
  have hl := stepR_len 2 1 f M c top
  have inM : ∀ {i}, i < M.length → InS n M (row M i) := fun {i} hi => InS.row hM (mem_row hi)
  have inS : ∀ {i}, i < M.length → InS n (stepR 2 1 f M c top) (row (stepR 2 1 f M c top) i) := fun {i} hi => InS.row hM2 (mem_row (by omega))
  have swM : ∀ {i}, i < M.length → InS n M (swB M (pivAt M c top) top i) := fun {i} hi => by
    unfold swB
    split
    · exact inM ht
    · exact inM hi
  constructor
  · refine InS.into fun r hr => ?_
    obtain ⟨i, hi, rfl⟩ := List.mem_iff_getElem.1 hr
    rw [← row_get hi]
    rw [hl] at hi
    rw [step_row h hM hc ht hp hi]
    split
    · exact inM hp
    · split
      · exact (swM hi).xor (inM hp)
      · exact swM hi
  · have hP : InS n (stepR 2 1 f M c top) (row M (pivAt M c top)) := by
      have := inS ht
      rwa [step_row h hM hc ht hp ht, if_pos rfl] at this
    have hB : ∀ {i}, i < M.length → i ≠ top → InS n (stepR 2 1 f M c top) (swB M (pivAt M c top) top i) := fun {i} hi hne => by
      have := inS hi
      rw [step_row h hM hc ht hp hi, if_neg hne] at this
      split at this
      · have := this.xor hP
        rwa [xor_cancel (swB_bv hM ht hi)] at this
      · exact this
    refine InS.into fun r hr => ?_
    obtain ⟨i, hi, rfl⟩ := List.mem_iff_getElem.1 hr
    rw [← row_get hi]
    by_cases e : i = pivAt M c top
    · rw [e]; exact hP
    · by_cases e2 : i = top
      · subst e2
        have := hB hp (fun e3 => e e3.symm)
        unfold swB at this
        rwa [if_pos rfl] at this
      · have := hB hi e2
        unfold swB at this
        rwa [if_neg e] at this
end
structure Ech (n c : Nat) (M : List (List Int)) (P : List Int) : Prop where
  mat : AllB n M
  le : P.length ≤ M.length
  piv : ∀ i, i < P.length → 0 ≤ nth P i ∧ nth P i < c
  one : ∀ i, i < P.length → nth (row M i) (nth P i).toNat = 1
  zero : ∀ i j, i < P.length → j < M.length → j ≠ i → nth (row M j) (nth P i).toNat = 0
  low : ∀ i, i < P.length → ∀ d, d < (nth P i).toNat → nth (row M i) d = 0
  rest : ∀ j, P.length ≤ j → j < M.length → ∀ d, d < c → nth (row M j) d = 0
  up : ∀ i j, i < j → j < P.length → nth P i < nth P j
section
variable {n c : Nat} {f : List Int} {M : List (List Int)} {P : List Int}
theorem nth_snocs {l : List Int} {x : Int} {i : Nat} : nth (l ++ [x]) i = if i < l.length then nth l i else if i = l.length then x else 0 := by
  unfold nth
  simp only [List.getD_eq_getElem?_getD, List.getElem?_append]
  split
  · rfl
  · split
    · rename_i e; subst e; simp
    · rw [List.getElem?_eq_none (by simp; omega)]; rfl
theorem Ech.start (hM : AllB n M) : Ech n 0 M [] := ⟨hM, Nat.zero_le _, fun i h => absurd h (by simp), fun i h => absurd h (by simp), fun i j h => absurd h (by simp), fun i h => absurd h (by simp), fun j _ _ d h => absurd h (by omega), fun i j _ h => absurd h (by simp)⟩
theorem Ech.skip (h : Ech n c M P) (h2 : P.length = M.length ∨ pivAt M c P.length = M.length) : Ech n (c + 1) M P := by
  refine ⟨h.mat, h.le, fun i hi => by have := h.piv i hi; omega, h.one, h.zero, h.low, fun j hj hj2 d hd => ?_, h.up⟩
  by_cases e : d = c
  · rcases h2 with h2 | h2
    · omega
    · rw [e]
      exact pivAt_low hj (by omega)
  · exact h.rest j hj hj2 d (by omega)
theorem Ech.step (hf : FldOk 2 1 f) (h : Ech n c M P) (hc : c < n) (h1 : P.length ≠ M.length) (h2 : pivAt M c P.length ≠ M.length) : Ech n (c + 1) (stepR 2 1 f M c P.length) (P ++ [(c : Int)]) := by
  have hle := h.le
  have ht : P.length < M.length := by omega
  obtain ⟨p1, p2⟩ := pivAt_le (rows := M) (c := c) hle
  have hp : pivAt M c P.length < M.length := by omega
  have hl := stepR_len 2 1 f M c P.length
  have hrow := fun {i} (hi : i < M.length) => step_row hf h.mat hc ht hp hi
  have hone := piv_one h.mat hc ht hp
  generalize hpv : pivAt M c P.length = pv at *
  have bP := row_bv h.mat hp
  -- the pivot's row is 0 in earlier columns
  have pz : ∀ d, d < c → nth (row M pv) d = 0 := fun d hd => h.rest pv p1 hp d hd
  have pzP : ∀ i, i < P.length → nth (row M pv) (nth P i).toNat = 0 := fun i hi => by have := h.piv i hi; exact pz _ (by omega)
  have sB : ∀ {j}, j < M.length → j ≠ P.length → Bv n (swB M pv P.length j) := fun {j} hj _ => swB_bv h.mat ht hj
  have vx : ∀ {j d}, j < M.length → j ≠ P.length → d < n → nth (row M pv) d = 0 → nth (row (stepR 2 1 f M c P.length) j) d = nth (swB M pv P.length j) d := fun {j d} hj hne hd hz => by
    rw [hrow hj, if_neg hne]
    split
    · have b := sB hj hne
      rw [xorL_nth _ _ (by rw [b.1]; exact hd), hz]
      have := b.2 d hd
      omega
    · rfl
  have szP : ∀ {i j}, i < P.length → j < M.length → j ≠ i → j ≠ P.length → nth (swB M pv P.length j) (nth P i).toNat = 0 := fun {i j} hi hj hne _ => by
    unfold swB
    split
    · exact h.zero i _ hi ht (by omega)
    · exact h.zero i j hi hj hne
  have szR : ∀ {j d}, P.length < j → j < M.length → d < c → nth (swB M pv P.length j) d = 0 := fun {j d} hj hj2 hd => by
    unfold swB
    split
    · exact h.rest _ (Nat.le_refl _) ht d hd
    · exact h.rest j (by omega) hj2 d hd
  have hcz : ∀ {j}, j < M.length → j ≠ P.length → nth (row (stepR 2 1 f M c P.length) j) c = 0 := fun {j} hj hne => by
    have b := sB hj hne
    rw [hrow hj, if_neg hne]
    split
    · rename_i e
      rw [xorL_nth _ _ (by rw [b.1]; exact hc), e, hone]
      rfl
    · rename_i e
      have := b.2 c hc
      omega
  refine ⟨step_bv hf h.mat hc ht (by rw [hpv]; exact hp), by rw [hl, List.length_append, List.length_singleton]; omega, fun i hi => ?_, fun i hi => ?_, fun i j hi hj hne => ?_, fun i hi d hd => ?_, fun j hj hj2 d hd => ?_, fun i j hij hj => ?_⟩
  · rw [List.length_append, List.length_singleton] at hi
    rw [nth_snocs]
    split
    · rename_i h3
      have := h.piv i h3
      omega
    · rw [if_pos (by omega)]; omega
  · rw [List.length_append, List.length_singleton] at hi
    rw [nth_snocs]
    split
    · rename_i h3
      have := h.piv i h3
      rw [vx (by omega) (by omega) (by omega) (pzP i h3)]
      unfold swB
      rw [if_neg (by omega)]
      exact h.one i h3
    · rw [if_pos (by omega), Int.toNat_natCast, hrow (by omega), if_pos (by omega)]
      exact hone
  · rw [List.length_append, List.length_singleton] at hi
    rw [hl] at hj
    rw [nth_snocs]
    split
    · rename_i h3
      have := h.piv i h3
      by_cases e : j = P.length
      · rw [hrow hj, if_pos e]
        exact pzP i h3
      · rw [vx hj e (by omega) (pzP i h3)]
        exact szP h3 hj hne e
    · rw [if_pos (by omega), Int.toNat_natCast]
      exact hcz hj (by omega)
  · rw [List.length_append, List.length_singleton] at hi
    rw [nth_snocs] at hd
    split at hd
    · rename_i h3
      have := h.piv i h3
      rw [vx (by omega) (by omega) (by omega) (pz d (by omega))]
      unfold swB
      rw [if_neg (by omega)]
      exact h.low i h3 d hd
    · rw [if_pos (by omega), Int.toNat_natCast] at hd
      rw [hrow (by omega), if_pos (by omega)]
      exact pz d hd
  · rw [List.length_append, List.length_singleton] at hj
    rw [hl] at hj2
    by_cases e : d = c
    · rw [e]; exact hcz hj2 (by omega)
    · rw [vx hj2 (by omega) (by omega) (pz d (by omega))]
      exact szR (by omega) hj2 (by omega)
  · rw [List.length_append, List.length_singleton] at hj
    rw [nth_snocs, nth_snocs, if_pos (by omega)]
    split
    · exact h.up i j hij (by assumption)
    · rw [if_pos (by omega)]
      exact (h.piv i (by omega)).2
theorem red_ech (hf : FldOk 2 1 f) (hM : AllB n M) : ∀ {c : Nat}, c ≤ n → Ech n c (redTo 2 1 f M c).1 (redTo 2 1 f M c).2 ∧ ∀ v, InS n (redTo 2 1 f M c).1 v ↔ InS n M v
  | 0, _ => ⟨Ech.start hM, fun v => Iff.rfl⟩
  | c + 1, hc => by
    obtain ⟨h1, h2⟩ := red_ech hf hM (c := c) (by omega)
    have hl := redTo_len 2 1 f M c
    rw [redTo]
    split
    · rename_i h
      rw [← hl] at h
      exact ⟨h1.skip h, h2⟩
    · rename_i h
      rw [← hl, not_or] at h
      have hle := h1.le
      have := pivAt_le (rows := (redTo 2 1 f M c).1) (c := c) hle
      exact ⟨h1.step hf (by omega) h.1 h.2, fun v => (step_span hf h1.mat (by omega) (by omega) (by omega) v).trans (h2 v)⟩
end
def Rref (n : Nat) (F : List (List Int)) : Prop := ∃ P, Ech n n F P ∧ P.length = F.length
section
variable {n : Nat} {f : List Int} {M F : List (List Int)}
theorem row_take {R : List (List Int)} {t i : Nat} (h : i < t) : row (R.take t) i = row R i := by
  unfold row
  simp [List.getD_eq_getElem?_getD, List.getElem?_take, h]
theorem form_two (hf : FldOk 2 1 f) (hM : AllB n M) (h0 : 0 < M.length) : Rref n (formR 2 1 f M) ∧ ∀ v, InS n (formR 2 1 f M) v ↔ InS n M v := by
  have hn : (row M 0).length = n := (row_bv hM h0).1
  unfold formR
  rw [hn]
  obtain ⟨h1, h2⟩ := red_ech hf hM (Nat.le_refl n)
  have hle := h1.le
  generalize (redTo 2 1 f M n).1 = M' at *
  generalize (redTo 2 1 f M n).2 = P at *
  have hlt : (M'.take P.length).length = P.length := by rw [List.length_take]; omega
  refine ⟨⟨P, ⟨fun r hr => h1.mat r (List.mem_of_mem_take hr), by omega, h1.piv, fun i hi => by rw [row_take hi]; exact h1.one i hi, fun i j hi hj hne => by rw [row_take (by omega)]; exact h1.zero i j hi (by omega) hne, fun i hi d hd => by rw [row_take hi]; exact h1.low i hi d hd, fun j hj hj2 => by omega, h1.up⟩, hlt.symm⟩, fun v => ?_⟩
  rw [← h2 v]
  constructor
  · exact InS.more fun r hr => List.mem_of_mem_take hr
  · refine InS.into fun r hr => ?_
    obtain ⟨i, hi, rfl⟩ := List.mem_iff_getElem.1 hr
    rcases Nat.lt_or_ge i P.length with h3 | h3
    · exact InS.row (fun r hr => h1.mat r (List.mem_of_mem_take hr)) (List.mem_take_iff_getElem.2 ⟨i, by omega, rfl⟩)
    · have e : M'[i] = zeroV n := bv_ext (h1.mat _ (List.getElem_mem hi)).1 (zeroV_len n) fun d hd => by
        rw [zeroV_nth, ← row_get hi]
        exact h1.rest i h3 hi d hd
      rw [e]
      exact .zero
theorem rows_ext {R S : List (List Int)} (hl : R.length = S.length) (h : ∀ i, i < R.length → row R i = row S i) : R = S := by
  refine List.ext_getElem hl fun i h1 h2 => ?_
  have := h i h1
  rwa [row_get h1, row_get h2] at this
theorem rref_form (hf : FldOk 2 1 f) (hR : Rref n F) (h0 : 0 < F.length) : formR 2 1 f F = F := by
  obtain ⟨P, h, hl⟩ := hR
  have hn : (row F 0).length = n := (row_bv h.mat h0).1
  have key : ∀ c, c ≤ n → ∃ t, t ≤ P.length ∧ redTo 2 1 f F c = (F, P.take t) ∧ (∀ i, i < t → nth P i < (c : Int)) ∧ ∀ i, t ≤ i → i < P.length → (c : Int) ≤ nth P i := by
    intro c
    induction c with
    | zero => intro _; exact ⟨0, Nat.zero_le _, by simp [redTo], fun i hi => absurd hi (by omega), fun i _ hi => (h.piv i hi).1⟩
    | succ c ih =>
      intro hc
      obtain ⟨t, ht, e, a1, a2⟩ := ih (by omega)
      have htl : (P.take t).length = t := by rw [List.length_take]; omega
      rw [redTo, e]
      simp only [htl]
      by_cases h1 : t = F.length
      · rw [if_pos (.inl h1)]
        exact ⟨t, ht, rfl, fun i hi => by have := a1 i hi; omega, fun i hi hi2 => by omega⟩
      · have htP : t < P.length := by omega
        by_cases h2 : nth P t = (c : Int)
        · have hpv : pivAt F c t = t := pivAt_is (Nat.le_refl _) (by omega) (fun j _ _ => by omega) fun _ => by
            have := h.one t htP
            rw [h2, Int.toNat_natCast] at this
            omega
          rw [if_neg (by rw [hpv]; omega)]
          have hone := h.one t htP
          rw [h2, Int.toNat_natCast] at hone
          have est : stepR 2 1 f F c t = F := by
            refine rows_ext (stepR_len 2 1 f F c t) fun i hi => ?_
            rw [stepR_len] at hi
            rw [step_row hf h.mat (by omega) (by omega) (by rw [hpv]; omega) hi, hpv]
            by_cases e2 : i = t
            · rw [if_pos e2, e2]
            · have hz := h.zero t i htP hi e2
              rw [h2, Int.toNat_natCast] at hz
              have esw : swB F t t i = row F i := by unfold swB; rw [if_neg e2]
              rw [if_neg e2, esw, hz, if_neg (by decide)]
          rw [est]
          refine ⟨t + 1, htP, ?_, fun i hi => ?_, fun i hi hi2 => ?_⟩
          · rw [List.take_succ_eq_append_getElem htP, ← nth_get htP, h2]
          · by_cases e2 : i = t
            · rw [e2, h2]; omega
            · have := a1 i (by omega); omega
          · have := h.up t i (by omega) hi2
            omega
        · have hpv : pivAt F c t = F.length := pivAt_is (by omega) (Nat.le_refl _) (fun j hj hj2 => by
            have b1 := a2 j hj (by omega)
            have b2 := a2 t (Nat.le_refl _) htP
            refine h.low j (by omega) c ?_
            rcases Nat.lt_or_ge t j with h3 | h3
            · have := h.up t j h3 (by omega); omega
            · obtain rfl : j = t := by omega
              omega) fun hh => absurd hh (Nat.lt_irrefl _)
          rw [if_pos (.inr hpv)]
          refine ⟨t, ht, rfl, fun i hi => by have := a1 i hi; omega, fun i hi hi2 => ?_⟩
          have b2 := a2 t (Nat.le_refl _) htP
          rcases Nat.lt_or_ge t i with h3 | h3
          · have := h.up t i h3 hi2; omega
          · obtain rfl : i = t := by omega
            omega
  obtain ⟨t, ht, e, -, a2⟩ := key n (Nat.le_refl n)
  unfold formR
  rw [hn, e]
  have : t = P.length := by
    rcases Nat.lt_or_ge t P.length with h3 | h3
    · have b1 := a2 t (Nat.le_refl _) h3
      have b2 := (h.piv t h3).2
      omega
    · omega
  simp only
  rw [List.length_take, this, Nat.min_self, hl, List.take_length]
theorem rref_words (hR : Rref n F) : ∃ P : List Int, ∀ j, j ≤ F.length → (wB n F j).Nodup ∧ ∀ w ∈ wB n F j, ∀ i, j ≤ i → i < F.length → nth w (nth P i).toNat = 0 := by
  obtain ⟨P, h, hl⟩ := hR
  refine ⟨P, fun j => ?_⟩
  induction j with
  | zero => exact fun _ => ⟨by simp [wB], fun w hw i _ _ => by rw [wB, List.mem_singleton] at hw; rw [hw, zeroV_nth]⟩
  | succ j ih =>
    intro hj
    obtain ⟨i1, i2⟩ := ih (by omega)
    have hbv : ∀ w ∈ wB n F j, Bv n w := fun w hw => ((wB_mem h.mat (by omega) w).1 hw).bv
    have hb := row_bv h.mat (i := j) (by omega)
    have hone := h.one j (by omega)
    have hpj := h.piv j (by omega)
    have xval : ∀ w ∈ wB n F j, nth (xorL w (row F j)) (nth P j).toNat = 1 := fun w hw => by
      rw [xorL_nth _ _ (by rw [(hbv w hw).1]; omega), hone, i2 w hw j (Nat.le_refl _) (by omega)]
      rfl
    refine ⟨?_, fun w hw i hi hi2 => ?_⟩
    · rw [wB, List.Nodup, List.pairwise_flatMap]
      refine ⟨fun w hw => ?_, List.Pairwise.imp_of_mem ?_ i1⟩
      · refine List.pairwise_cons.2 ⟨fun x hx e => ?_, by simp⟩
        rw [List.mem_singleton] at hx
        have h1 := xval w hw
        have h2 := i2 w hw j (Nat.le_refl _) (by omega)
        rw [← hx, ← e, h2] at h1
        cases h1
      · intro w1 w2 hw1 hw2 hne x hx y hy e
        subst e
        have h1 := i2 w1 hw1 j (Nat.le_refl _) (by omega)
        have h2 := i2 w2 hw2 j (Nat.le_refl _) (by omega)
        have x1 := xval w1 hw1
        have x2 := xval w2 hw2
        simp only [List.mem_cons, List.not_mem_nil, or_false] at hx hy
        rcases hx with rfl | rfl <;> rcases hy with hy | hy
        · exact hne hy
        · rw [← hy, h1] at x2; cases x2
        · rw [hy, h2] at x1; cases x1
        · refine hne ?_
          rw [← xor_cancel (hbv w1 hw1) (row F j), hy, xor_cancel (hbv w2 hw2)]
    · rw [wB, List.mem_flatMap] at hw
      obtain ⟨w', hw', hx⟩ := hw
      have hz := h.zero i j (by omega) (by omega) (by omega)
      have hpi := h.piv i (by omega)
      rcases List.mem_cons.1 hx with rfl | hx
      · exact i2 w hw' i (by omega) hi2
      · rw [List.mem_singleton.1 hx, xorL_nth _ _ (by rw [(hbv w' hw').1]; omega), i2 w' hw' i (by omega) hi2, hz]
        rfl
theorem rref_nodup (hR : Rref n F) : (wB n F F.length).Nodup := by
  obtain ⟨P, h⟩ := rref_words hR
  exact (h F.length (Nat.le_refl _)).1
end
section
variable {n : Nat} {s v w : List Int} {R : List (List Int)}
theorem then_bv (hs : PermN n s) (hv : Bv n v) : Bv n (thenP s v) := ⟨by rw [thenP_len, hs.1], fun i hi => by
  rw [thenP_nth (by rw [hs.1]; exact hi)]
  exact hv.2 _ (hs.nat hi)⟩
theorem then_xor (hs : PermN n s) (hv : Bv n v) (w : List Int) : thenP s (xorL v w) = xorL (thenP s v) (thenP s w) :=
  bv_ext (n := n) (by rw [thenP_len, hs.1]) (by rw [xorL_len, thenP_len, hs.1]) fun i hi => by
    have hi' : i < s.length := by rw [hs.1]; exact hi
    rw [thenP_nth hi', xorL_nth v w (by rw [hv.1]; exact hs.nat hi), xorL_nth (thenP s v) (thenP s w) (by rw [thenP_len]; exact hi'), thenP_nth hi', thenP_nth hi']
theorem then_zero (hs : PermN n s) : thenP s (zeroV n) = zeroV n :=
  bv_ext (n := n) (by rw [thenP_len, hs.1]) (zeroV_len n) fun i hi => by rw [thenP_nth (by rw [hs.1]; exact hi), zeroV_nth, zeroV_nth]
theorem then_inj (hs : PermN n s) (hv : Bv n v) (hw : Bv n w) (h : thenP s v = thenP s w) : v = w := bv_ext hv.1 hw.1 fun i hi => by
  obtain ⟨u, hu, e⟩ := perm_surj hs.2 (i := i) (by rw [hs.1]; exact hi)
  have := congrArg (fun l => nth l u) h
  simp only [thenP_nth hu, e, Int.toNat_natCast] at this
  exact this
theorem inS_map (hs : PermN n s) (hR : AllB n R) (u : List Int) : InS n (R.map (thenP s)) u ↔ ∃ w, InS n R w ∧ u = thenP s w := by
  constructor
  · intro h
    induction h with
    | zero => exact ⟨_, .zero, (then_zero hs).symm⟩
    | add h hr ih =>
      obtain ⟨w, hw, rfl⟩ := ih
      obtain ⟨r, hr2, rfl⟩ := List.mem_map.1 hr
      exact ⟨xorL w r, hw.add hr2, (then_xor hs hw.bv r).symm⟩
  · rintro ⟨w, hw, rfl⟩
    induction hw with
    | zero => rw [then_zero hs]; exact .zero
    | add h hr ih =>
      rw [then_xor hs h.bv]
      exact ih.add (List.mem_map.2 ⟨_, hr, rfl⟩)
theorem map_bv (hs : PermN n s) (hR : AllB n R) : AllB n (R.map (thenP s)) := fun r hr => by
  obtain ⟨r, hr2, rfl⟩ := List.mem_map.1 hr
  exact then_bv hs (hR r hr2)
end
theorem two_pow_inj {a b : Nat} (h : 2 ^ a = 2 ^ b) : a = b := by
  rcases Nat.lt_trichotomy a b with h1 | h1 | h1
  · have := Nat.pow_lt_pow_right (a := 2) (by decide) h1; omega
  · exact h1
  · have := Nat.pow_lt_pow_right (a := 2) (by decide) h1; omega
section
variable {n : Nat} {f s : List Int} {R : List (List Int)}
theorem words_perm (hf : FldOk 2 1 f) (hs : PermN n s) (hR : Rref n R) (h0 : 0 < R.length) :
    (formR 2 1 f (R.map (thenP s))).length = R.length ∧ Rref n (formR 2 1 f (R.map (thenP s))) ∧
    (wB n (formR 2 1 f (R.map (thenP s))) R.length).Perm ((wB n R R.length).map (thenP s)) := by
  have hB : AllB n R := by obtain ⟨P, h, -⟩ := hR; exact h.mat
  obtain ⟨h1, h2⟩ := form_two hf (map_bv hs hB) (by rw [List.length_map]; exact h0)
  have hD : AllB n (formR 2 1 f (R.map (thenP s))) := by obtain ⟨P, h, -⟩ := h1; exact h.mat
  generalize formR 2 1 f (R.map (thenP s)) = D at *
  have hnd := rref_nodup hR
  have hp : (wB n D D.length).Perm ((wB n R R.length).map (thenP s)) := by
    refine (List.perm_ext_iff_of_nodup (rref_nodup h1) ?_).2 fun u => ?_
    · rw [List.Nodup, List.pairwise_map]
      exact List.Pairwise.imp_of_mem (fun {a b} ha hb hne e => hne (then_inj hs ((wB_all hB a).1 ha).bv ((wB_all hB b).1 hb).bv e)) hnd
    · rw [wB_all hD, h2, inS_map hs hB, List.mem_map]
      constructor
      · rintro ⟨w, hw, rfl⟩; exact ⟨w, (wB_all hB w).2 hw, rfl⟩
      · rintro ⟨w, hw, rfl⟩; exact ⟨w, (wB_all hB w).1 hw, rfl⟩
  have hl := hp.length_eq
  rw [List.length_map, wB_len, wB_len] at hl
  have hl := two_pow_inj hl
  rw [hl] at hp
  exact ⟨hl, h1, hp⟩
theorem sup_then (hs : PermN n s) {w : List Int} (hw : w.length = n) : imgR s (supW (thenP s w)) = supW w := by
  refine strict_unique sgnI_ord (setG_strict sgnI_ord _) ((supW_rise w).imp fun {a b} h => ?_) fun y => ?_
  · rcases sgnI_cases a b with ⟨h1, e⟩ | ⟨h1, e⟩ | ⟨h1, e⟩ <;> omega
  · rw [imgR_mem]
    constructor
    · rintro ⟨x, hx, rfl⟩
      have hb := supW_bd _ x hx
      obtain ⟨x, rfl⟩ := Int.eq_ofNat_of_zero_le hb.1
      obtain ⟨h1, h2⟩ := mem_supW.1 hx
      rw [thenP_len] at h1
      rw [thenP_nth h1] at h2
      have hlt := perm_lt hs.2 h1
      rw [Int.toNat_natCast, ← hlt.2]
      exact mem_supW.2 ⟨by rw [hw]; have := hlt.1; rw [hs.1] at this; exact this, h2⟩
    · intro hy
      have hb := supW_bd _ y hy
      obtain ⟨y, rfl⟩ := Int.eq_ofNat_of_zero_le hb.1
      obtain ⟨h1, h2⟩ := mem_supW.1 hy
      obtain ⟨u, hu, e⟩ := perm_surj hs.2 (i := y) (by rw [hs.1, ← hw]; exact h1)
      exact ⟨(u : Int), mem_supW.2 ⟨by rw [thenP_len]; exact hu, by rw [thenP_nth hu, e, Int.toNat_natCast]; exact h2⟩, by rw [Int.toNat_natCast]; exact e⟩
theorem sups_perm (hf : FldOk 2 1 f) (hs : PermN n s) (hR : Rref n R) (h0 : 0 < R.length) :
    (supsW (wB n R R.length)).Perm ((supsW (wB n (formR 2 1 f (R.map (thenP s))) R.length)).map (imgR s)) := by
  obtain ⟨-, -, hp⟩ := words_perm hf hs hR h0
  have hB : AllB n R := by obtain ⟨P, h, -⟩ := hR; exact h.mat
  obtain ⟨tR, eR⟩ := wB_head n R R.length
  obtain ⟨tD, eD⟩ := wB_head n (formR 2 1 f (R.map (thenP s))) R.length
  have hbv : ∀ w ∈ tR, w.length = n := fun w hw => (((wB_all hB w).1 (by rw [eR]; exact List.mem_cons_of_mem _ hw)).bv).1
  rw [eR, eD, List.map_cons, then_zero hs] at hp
  have hp := (List.perm_cons _).1 hp
  unfold supsW
  rw [eR, eD, List.drop_one, List.drop_one, List.tail_cons, List.tail_cons, List.map_map]
  have e : tR.map supW = (tR.map (thenP s)).map (imgR s ∘ supW) := by
    rw [List.map_map]
    exact List.map_congr_left fun w hw => (sup_then hs (hbv w hw)).symm
  rw [e]
  exact (hp.map _).symm
theorem sups_bd {m : Nat} {L : List (List Int)} (h : ∀ w ∈ L, w.length = m) : ∀ z ∈ supsW L, ∀ x ∈ z, 0 ≤ x ∧ x < (m : Int) := fun z hz x hx => by
  obtain ⟨w, hw, rfl⟩ := List.mem_map.1 hz
  have := supW_bd w x hx
  rwa [h w (List.mem_of_mem_drop hw)] at this
end
/-! the law -/
theorem code_rref {n : Nat} {f : List Int} {xs : List (List Int)} (hf : FldOk 2 1 f) (hx : AllB n xs) (h0 : 0 < xs.length) (h : formR 2 1 f xs = xs) : Rref n xs := by
  have := (form_two hf hx h0).1
  rwa [h] at this
theorem eqc_two {n k : Nat} {f s : List Int} {xs ys : List (List Int)} {b : Int} (hf : FldOk 2 1 f) (hs : PermN n s) (h1 : CodeOk 2 1 f xs) (h2 : CodeOk 2 1 f ys) (hy : ys = formR 2 1 f (xs.map (thenP s))) (hx : AllB n xs) (n7 : n ≤ 7) (hk : xs.length = k) (k1 : 1 ≤ k) (k3 : k ≤ 3) (hb : inB b 1 20000 = true) :
    (eqcK 2 1 f xs 2 1 f ys b = 0 ∧ eqcR 2 1 f xs 2 1 f ys b = true) ∨ eqcK 2 1 f xs 2 1 f ys b = 5 := by
  have hR := code_rref hf hx (by omega) h1.2.2.2
  obtain ⟨e1, e2, -⟩ := words_perm hf hs hR (by omega)
  have hp := sups_perm hf hs hR (by omega)
  rw [← hy] at e1 e2 hp
  have hyB : AllB n ys := by obtain ⟨P, h, -⟩ := e2; exact h.mat
  have hx0 : (row xs 0).length = n := (row_bv hx (by omega)).1
  have hy0 : (row ys 0).length = n := (row_bv hyB (by omega)).1
  have c1 : cdB 2 1 f n xs = supsW (wB n xs xs.length) := by unfold cdB; rw [words_two hf hx (Nat.le_refl _)]
  have c2 : cdB 2 1 f n ys = supsW (wB n ys xs.length) := by unfold cdB; rw [words_two hf hyB (Nat.le_refl _), e1]
  have l1 : (supsW (wB n xs xs.length)).length ≤ 7 := by
    rw [supsW_len, wB_len, hk]
    have : 2 ^ k ≤ 2 ^ 3 := Nat.pow_le_pow_right (by decide) k3
    omega
  have l2 : (supsW (wB n ys xs.length)).length = (supsW (wB n xs xs.length)).length := by rw [supsW_len, supsW_len, wB_len, wB_len]
  obtain ⟨q, iso, hc, -⟩ := ext_iso (V := n) (sups_bd (L := wB n ys xs.length) fun w hw => (((wB_mem hyB (j := xs.length) (by omega) w).1 hw).bv).1) hs hp
  rw [l2] at iso hc
  have f1 : ∀ bs : List (List Int), bs.length ≤ 7 → dgK n bs = 0 ∧ dgC n bs = dsC n bs.length ∧ dgE n bs = dsE n bs n ∧ GraphOk (dsC n bs.length) (dsE n bs n) := fun bs hbs => by
    have h3 := dsE_len n bs n
    have h4 : n * bs.length ≤ 7 * 7 := Nat.mul_le_mul n7 hbs
    have hF : dsF n bs = false := by
      unfold dsF
      simp
      omega
    exact ⟨by rw [dgK, hF]; rfl, by rw [dgC, hF]; rfl, by rw [dgE, hF]; rfl, ds_graphOk (by omega) (by omega)⟩
  obtain ⟨a1, a2, a3, a4⟩ := f1 _ l1
  obtain ⟨b1, b2, b3, b4⟩ := f1 (supsW (wB n ys xs.length)) (by omega)
  have p2 : ((2 : Int) ^ 1 = 2) := rfl
  have t1 : (1 : Int).toNat = 1 := rfl
  have gx : cgK 2 1 f xs = 0 ∧ cgC 2 1 f xs = dsC n (supsW (wB n xs xs.length)).length ∧ cgE 2 1 f xs = dsE n (supsW (wB n xs xs.length)) n := by
    obtain ⟨d1, d2, d3⟩ := cd_yes (p := 2) (k := 1) (f := f) (m := n) (rows := xs) p2
    unfold cgK cgC cgE
    rw [t1, hx0, d1, d2, d3, c1, a1, a2, a3]
    exact ⟨rfl, rfl, rfl⟩
  have gy : cgK 2 1 f ys = 0 ∧ cgC 2 1 f ys = dsC n (supsW (wB n xs xs.length)).length ∧ cgE 2 1 f ys = dsE n (supsW (wB n ys xs.length)) n := by
    obtain ⟨d1, d2, d3⟩ := cd_yes (p := 2) (k := 1) (f := f) (m := n) (rows := ys) p2
    unfold cgK cgC cgE
    rw [t1, hy0, d1, d2, d3, c2, b1, b2, b3, l2]
    exact ⟨rfl, rfl, rfl⟩
  rw [l2] at b4
  obtain ⟨x1, x2, x3⟩ := gx
  obtain ⟨y1, y2, y3⟩ := gy
  have HK : eqcK 2 1 f xs 2 1 f ys b = code2P (dsC n (supsW (wB n xs xs.length)).length) (dsE n (supsW (wB n xs xs.length)) n) (dsC n (supsW (wB n xs xs.length)).length) (dsE n (supsW (wB n ys xs.length)) n) b := by
    rw [eqcK, tB_yes h1, tB_yes h2, hb, x1, x2, x3, y1, y2, y3]
    simp [samC]
  have HR : eqcR 2 1 f xs 2 1 f ys b = isoP (dsC n (supsW (wB n xs xs.length)).length) (dsE n (supsW (wB n xs xs.length)) n) (dsC n (supsW (wB n xs xs.length)).length) (dsE n (supsW (wB n ys xs.length)) n) b := by
    rw [eqcR, tB_yes h1, tB_yes h2, hb, x1, x2, x3, y1, y2, y3]
    simp [samB]
  rw [HK, HR]
  by_cases z1 : codeP (dsC n (supsW (wB n xs xs.length)).length) (dsE n (supsW (wB n xs xs.length)) n) b = 0
  · rcases codeP_two b4 hb with z2 | z2
    · have c0 := code2_eq a4 b4 z1
      rw [z2] at c0
      refine .inl ⟨c0, ?_⟩
      exact iso_done iso.back (dsC_len _ _) (dsC_len _ _) (colors_back iso.perm iso.len (dsC_len _ _) hc) c0
    · exact .inr (by rw [code2_eq a4 b4 z1, z2])
  · right
    rw [code2_ne a4 b4 z1]
    exact (codeP_two a4 hb).resolve_left z1
theorem FAt.of_blk {w : World} {g : Nat} {P : Int} {k : Nat} {A : Option Addr} {n c : Nat} {f : List Int} (X : Blk w g 31 #[.int .i64 P, .int .i64 k, .slice A n c]) (h : RI w A n f) : FAt w g P k A n c f := by
  obtain ⟨x0, x1, x2⟩ := X.cells3
  exact ⟨x0, x1, x2, h⟩
theorem field_of {x : Int} (h : x ∈ [2, 2, 3, 4, 5, 7, 8, 9]) : ∃ (P : Int) (k : Nat), (P, k) ∈ PKL ∧ P ^ k = x := by
  simp only [List.mem_cons, List.not_mem_nil, or_false] at h
  rcases h with rfl | rfl | rfl | rfl | rfl | rfl | rfl | rfl
  · exact ⟨2, 1, by decide, by decide⟩
  · exact ⟨2, 1, by decide, by decide⟩
  · exact ⟨3, 1, by decide, by decide⟩
  · exact ⟨2, 2, by decide, by decide⟩
  · exact ⟨5, 1, by decide, by decide⟩
  · exact ⟨7, 1, by decide, by decide⟩
  · exact ⟨2, 3, by decide, by decide⟩
  · exact ⟨3, 2, by decide, by decide⟩
def RetDF2 (w : World) (g p : Nat) (e : Ending) (w' : World) : Prop := ∃ (P : Int) (k : Nat) (A : Option Addr) (n c q : Nat), e = .returned (.agg #[.int .i64 P, .int .i64 k, .slice A n c]) ∧ (P, k) ∈ PKL ∧ OI w' w.heap.size 2 A n c (mkP P k) ∧ SrW w w' g q ∧ q ≤ p + 2
set_option maxRecDepth 100000 in
set_option maxHeartbeats 1000000 in
theorem l17DrawField_any (g p : Nat) (w : World) (hs : Src w g p) (hp : p ≤ 140737488355328) :
    Calls Tryz.prog 103 #[.pointer (some ⟨g, 0, none⟩)] w (RetDF2 w g p) := by
  have S := (SrW.start hs).step (below_alloc w (.cells #[.int .i64 0, .int .i64 0, .slice none 0 0] 31))
  have R := Blk.new w 31 #[.int .i64 0, .int .i64 0, .slice none 0 0]
  have hsz : (w.alloc (.cells #[.int .i64 0, .int .i64 0, .slice none 0 0] 31)).heap.size = w.heap.size + 1 := by simp
  have hgl := S.gl
  generalize hW : w.alloc (.cells #[.int .i64 0, .int .i64 0, .slice none 0 0] 31) = W at *
  have ho := OI.lit W w.heap.size 2 [2, 2, 3, 4, 5, 7, 8, 9] (by omega) (by simp) (fun x hx => by
    simp only [List.mem_cons, List.not_mem_nil, or_false] at hx
    unfold I64
    omega)
  have hb1 := below_alloc W (.cells (ints [2, 2, 3, 4, 5, 7, 8, 9]).toArray 2)
  have R := R.after hb1
  have S := S.step hb1
  have hzW := Lib.hid hsz
  have ham := among_any g p _ 8 8 [2, 2, 3, 4, 5, 7, 8, 9] _ S.src (by omega) ho.reads (fun a ha => by injection ha with ha; rw [← ha]; show W.heap.size ≠ g; omega) (by omega) (by omega)
  clear hsz ho hb1
  go_enter Tryz.func103, Tryz.ntmps103
  go_wp2_with fail
  refine ham.mono ?_
  rintro e w2 ⟨x, q2, rfl, hx, hq2, hs2, hg2⟩
  obtain ⟨P, k, hm, hq⟩ := field_of hx
  have R := R.grown hg2 (fun e => by injection e with e; omega)
  have hg2s := hg2.size
  have S := S.next hs2 hg2
  have hmk := l03Make_any hm x w2 hq
  clear ham hs2 hg2 hx hq
  go_wp2_with fail
  refine hmk.mono ?_
  rintro e w3 ⟨A, n, c, rfl, ho, hb3⟩
  have R := R.after hb3
  have S := S.step hb3
  have hlt : w.heap.size < w2.heap.size := Nat.lt_of_lt_of_le (by rw [show W.heap.size = w.heap.size + 1 from hzW.out]; exact Nat.lt_succ_self _ : w.heap.size < W.heap.size) (Nat.le_trans (by simp) hg2s)
  have hres := (((ho.setLow (p := ⟨w.heap.size, 0, none⟩) hlt (.int .i64 P)).setLow (p := ⟨w.heap.size, 1, none⟩) hlt (.int .i64 k)).setLow (p := ⟨w.heap.size, 2, none⟩) hlt (.slice A n c)).more (B' := w.heap.size) (Nat.le_of_lt hlt)
  have SF := ((S.far (grown_set (g := w.heap.size) (p := 0) (u := .int .i64 P)) (fun b e => by injection e with e; omega)).far (grown_set (g := w.heap.size) (p := 1) (u := .int .i64 k)) (fun b e => by injection e with e; omega)).far (grown_set (g := w.heap.size) (p := 2) (u := .slice A n c)) (fun b e => by injection e with e; omega)
  have X9 := ((R.set_ 0 (.int .i64 P)).set_ 1 (.int .i64 k)).set_ 2 (.slice A n c)
  obtain ⟨x0, x1, x2⟩ := R.cells3
  have f0 := R.frozen 0
  have f1 := R.frozen 1
  have f2 := R.frozen 2
  clear hmk ho hb3
  go_wp2
  clear x0 x1 x2
  obtain ⟨x0, x1, x2⟩ := X9.cells3
  exact bodyPost_ret (v := .agg #[.int .i64 P, .int .i64 k, .slice A n c]) (by simp [results, Tryz.results103, go_sem, x0, x1, x2]) rfl ⟨P, k, A, n, c, q2, rfl, hm, hres, SF, hq2⟩
def RetDV (w : World) (g p m : Nat) (Q : Int) (e : Ending) (w' : World) : Prop := ∃ (B : Option Addr) (d q : Nat) (zs : List Int), e = .returned (.slice B m d) ∧ OI w' w.heap.size 2 B m d zs ∧ VecQ Q zs ∧ SrW w w' g q ∧ q ≤ p + 4 * m
theorem vecQ_snoc {Q x : Int} {zs : List Int} (h : VecQ Q zs) (h0 : 0 ≤ x) (h1 : x < Q) : VecQ Q (zs ++ [x]) := fun i hi => by
  rw [List.length_append, List.length_singleton] at hi
  by_cases e : i < zs.length
  · have := h i e
    have e2 : nth (zs ++ [x]) i = nth zs i := by unfold nth; rw [List.getD_eq_getElem?_getD, List.getElem?_append_left e, ← List.getD_eq_getElem?_getD]
    rw [e2]; exact this
  · obtain rfl : i = zs.length := by omega
    have e2 : nth (zs ++ [x]) zs.length = x := by simp [nth]
    rw [e2]; exact ⟨h0, h1⟩
set_option maxRecDepth 100000 in
set_option maxHeartbeats 2000000 in
theorem l17DrawVector_any (g p gf : Nat) (P : Int) (k : Nat) (A : Option Addr) (n c : Nat) (f : List Int) (m : Nat) (w : World) (hs : Src w g p) (hp : p ≤ 140737488355328) (HF : ∀ W, w.grownBy W (some g) → FAt W gf P k A n c f) (hf : FldOk P k f) (hm : m ≤ 64) :
    Calls Tryz.prog 164 #[.pointer (some ⟨g, 0, none⟩), .pointer (some ⟨gf, 0, none⟩), .int .i64 m] w (RetDV w g p m (P ^ k)) := by
  obtain ⟨p2, p61, k1, k6, q64, q2⟩ := hf.nums
  have HF := Lib.hid HF
  have hb0 := below_alloc w (.cells #[] 2)
  have ho0 : OI (w.alloc (.cells #[] 2)) w.heap.size 2 (some ⟨w.heap.size, 0, none⟩) 0 0 [] := ⟨OS.lit w w.heap.size 2 1 0 #[] (Nat.le_refl _) rfl (by omega), fun _ h => by cases h⟩
  have S := (SrW.start hs).step hb0
  clear hb0 hs
  have HSz := Lib.hid (fun W (h : w.grownBy W (some g)) => l03Size_any gf P k A n c f W (HF.out W h) p2 (by omega) k6)
  generalize P ^ k = Q at *
  clear HF hf
  go_enter Tryz.func164, Tryz.ntmps164
  go_wp2
  go_loopw [2, 7] (fun nv ov wr => ∃ (j t d q : Nat) (B : Option Addr) (zs : List Int), nv = .int .i64 j ∧ ov = .slice B t d ∧ t + j = m ∧ OI wr w.heap.size 2 B t d zs ∧ VecQ Q zs ∧ SrW w wr g q ∧ q + 4 * j ≤ p + 4 * m) (fun nv _ _ => (intOf nv).toNat)
  case atStart => exact ⟨m, 0, 0, p, _, [], rfl, rfl, by omega, ho0, fun i hi => absurd hi (by simp), S, Nat.le_refl _⟩
  case round =>
    clear ho0 S
    obtain ⟨j, t, d, q, B, zs, rfl, rfl, htj, ho, hv, S, hq⟩ := hrel
    by_cases hj : 0 < j
    · have HV := Lib.hid hv
      clear hv
      go_wp2_with fail
      refine (HSz.out wr S.grown).mono ?_
      rintro e w2 ⟨rfl, q2', rfl⟩
      have S := S.step (below_drewn wr q2')
      have ho := ho.below (below_drewn wr q2')
      generalize wr.drewN q2' = w2 at *
      go_wp2_with fail
      refine (pick_any g q Q w2 S.src (by omega) (by omega) (by omega)).mono ?_
      rintro e w3 ⟨x, q3, rfl, x0, x1, hq3, hs3, hg3⟩
      have ho := ho.keptB hg3 S.gl
      have S := S.next hs3 hg3
      clear hs3 hg3
      go_wp2_with fail
      refine (one_any g q3 3 w3 S.src (by omega) (by omega) (by omega)).mono ?_
      rintro e w4 ⟨b, q4, rfl, hq4, hs4, hg4⟩
      have ho := ho.keptB hg4 S.gl
      have S := S.next hs4 hg4
      have hsz := S.size
      clear hs4 hg4
      cases b with
      | true =>
        go_wp2_with (at_builtin; refine app_int _ rfl _ _ rfl w.heap.size B t d _ rfl ho 0 _ rfl (by simp) ⟨by omega, by omega⟩ (by omega) hsz ?_; intro A5 c5 w5 ho5 hg5 hf5)
        have S := S.far hg5 (fun b hb => (ho.os.lt hb).1)
        have HV2 := vecQ_snoc HV.out (x := 0) (Int.le_refl _) (by omega)
        go_roundw
        case rel => exact ⟨j - 1, t + 1, c5, q4, A5, _, by go_num, rfl, by omega, ho5, HV2, S, by omega⟩
        case measure => simp [intOf]; omega
      | false =>
        go_wp2_with (at_builtin; refine app_int _ rfl _ _ rfl w.heap.size B t d _ rfl ho x _ rfl (by simp) ⟨by omega, by omega⟩ (by omega) hsz ?_; intro A5 c5 w5 ho5 hg5 hf5)
        have S := S.far hg5 (fun b hb => (ho.os.lt hb).1)
        have HV2 := vecQ_snoc HV.out x0 (by omega)
        go_roundw
        case rel => exact ⟨j - 1, t + 1, c5, q4, A5, _, by go_num, rfl, by omega, ho5, HV2, S, by omega⟩
        case measure => simp [intOf]; omega
    · obtain rfl : j = 0 := by omega
      obtain rfl : t = m := by omega
      go_wp2
      go_ret
      exact ⟨B, d, q, zs, rfl, ho, hv, S, by omega⟩
def lenE (v : Value) : Nat := match v with | .slice _ n _ => n | _ => 0
theorem DBv.at_ {w wr : World} {g q : Nat} {A : Option Addr} {k c : Nat} {vs : List Sl} {zss : List (List Int)} (h : DBv w wr g q A k c vs zss) {j : Nat} (hj : j < k) : ∃ (G : Nat) (v : Sl), A = some ⟨G, 0, none⟩ ∧ vs[j]? = some v ∧ wr.cell? ⟨G, j, none⟩ = some (slv v) ∧ RI wr v.1 v.2.1 (row zss j) := by
  obtain ⟨G, v, ha, hv, co, fo, hr⟩ := h.o.get hj
  exact ⟨G, v, ha, hv, co, hr.reads⟩
theorem DBv.cell_ {w wr : World} {g q G : Nat} {k c : Nat} {vs : List Sl} {zss : List (List Int)} (h : DBv w wr g q (some ⟨G, 0, none⟩) k c vs zss) {j : Nat} {v : Sl} (hv : vs[j]? = some v) : wr.cell? ⟨G, j, none⟩ = some (slv v) ∧ RI wr v.1 v.2.1 (row zss j) := by
  have hj : j < k := by have := h.o.os.len; have := (List.getElem?_eq_some_iff.1 hv).1; simp at *; omega
  obtain ⟨G', v', ha, hv', co, hr⟩ := h.at_ hj
  cases ha
  rw [hv] at hv'
  cases hv'
  exact ⟨co, hr⟩
theorem matQ_snoc {Q : Int} {N : Nat} {zss : List (List Int)} {z : List Int} (h : MatQ Q N zss) (hz : z.length = N) (hv : VecQ Q z) : MatQ Q N (zss ++ [z]) := fun i hi => by
  rw [List.length_append, List.length_singleton] at hi
  by_cases e : i < zss.length
  · have e2 : row (zss ++ [z]) i = row zss i := by unfold row; rw [List.getD_eq_getElem?_getD, List.getElem?_append_left e, ← List.getD_eq_getElem?_getD]
    rw [e2]; exact h i e
  · obtain rfl : i = zss.length := by omega
    have e2 : row (zss ++ [z]) zss.length = z := by simp [row]
    rw [e2]; exact ⟨hz, hv⟩
def RetDM (w : World) (g p K N : Nat) (Q : Int) (e : Ending) (w' : World) : Prop := ∃ (A : Option Addr) (c q : Nat) (zss : List (List Int)), e = .returned (.slice A K c) ∧ DBs w w' g q A K c zss ∧ MatQ Q N zss ∧ q ≤ p + (4 * N + 4) * K
set_option maxRecDepth 100000 in
set_option maxHeartbeats 4000000 in
theorem l17DrawRows_any (g p gf : Nat) (P : Int) (k : Nat) (A : Option Addr) (n c : Nat) (f : List Int) (K N : Nat) (w : World) (hs : Src w g p) (hp : p ≤ 70368744177664) (HF : ∀ W, w.grownBy W (some g) → FAt W gf P k A n c f) (hf : FldOk P k f) (hK : K ≤ 64) (hN : N ≤ 64) :
    Calls Tryz.prog 105 #[.pointer (some ⟨g, 0, none⟩), .pointer (some ⟨gf, 0, none⟩), .int .i64 K, .int .i64 N] w (RetDM w g p K N (P ^ k)) := by
  obtain ⟨p2, p61, k1, k6, q64, q2⟩ := hf.nums
  have p0 : 0 < P := by omega
  have HF := Lib.hid HF
  have hb0 := below_alloc w (.cells #[] 22)
  have ho0 := OR.of_own (e1 := 2) (OS.lit w w.heap.size 22 1 0 #[] (Nat.le_refl _) rfl (by omega)) (by decide)
  have D : DBs w (w.alloc (.cells #[] 22)) g p (some ⟨w.heap.size, 0, none⟩) 0 0 [] := ⟨ho0, (SrW.start hs).step hb0⟩
  clear hb0 ho0 hs
  have HSz := Lib.hid (fun W (h : w.grownBy W (some g)) => l03Size_any gf P k A n c f W (HF.out W h) p2 (by omega) k6)
  have HVec := Lib.hid (fun (W : World) (q : Nat) (hs : Src W g q) (hq : q ≤ 140737488355328) (h : w.grownBy W (some g)) => l17DrawVector_any g q gf P k A n c f N W hs hq (fun W' h' => HF.out W' (h.trans h')) hf hN)
  have HLess := Lib.hid (fun (W : World) (B : Option Addr) (d : Nat) (v : List Int) (C : Option Addr) (d2 : Nat) (u : List Int) (x : Int) (h : w.grownBy W (some g)) (hv : RI W B N v) (hu : RI W C N u) (hqv : VecQ (P ^ k) v) (hqu : VecQ (P ^ k) u) (hx : 0 ≤ x ∧ x ≤ 64) => l17Less_any gf P k A n c f B N d v C d2 u x W (HF.out W h) hf hv hu (by omega) hqv hqu hx)
  have HLq := Lib.hid (fun (v u : List Int) (x : Int) => (show (lessR P k f v u x).length = v.length from by simp [lessR]))
  have HLv := Lib.hid (fun (v u : List Int) (x : Int) => VecQ.less (k := k) p0 f v u x)
  generalize P ^ k = Q at *
  clear HF hf
  go_enter Tryz.func105, Tryz.ntmps105
  go_wp2
  go_loopw [9] (fun ov wr => ∃ (j d q : Nat) (B : Option Addr) (zss : List (List Int)), ov = .slice B j d ∧ j ≤ K ∧ DBs w wr g q B j d zss ∧ MatQ Q N zss ∧ q ≤ p + (4 * N + 4) * j) (fun ov _ => K - lenE ov)
  case atStart => exact ⟨0, 0, p, _, [], rfl, Nat.zero_le _, D, fun i hi => absurd hi (by simp), Nat.le_refl _⟩
  case round =>
    clear D
    obtain ⟨j, d, q, B, zss, rfl, hjK, D, hM, hq⟩ := hrel
    by_cases hj : j < K
    · have hqb : (4 * N + 4) * j ≤ (4 * 64 + 4) * 64 := Nat.mul_le_mul (by omega) (by omega)
      have hq1 : (4 * N + 4) * (j + 1) = (4 * N + 4) * j + (4 * N + 4) := by rw [Nat.mul_succ]
      have HM := Lib.hid hM
      clear hM
      go_wp2_with fail
      refine (HVec.out wr q D.s.src (by omega) D.s.grown).mono ?_
      rintro e w2 ⟨C, d2, q3, z, rfl, ho, hv, S2, hq3⟩
      have hsz := D.s.size
      obtain ⟨vs, D⟩ := D.v
      have hap := Lib.hid (D.new (Z := C) (zn := N) (zc := d2) (fun b hb => (ho.os.lt hb).1))
      have D := D.draw S2.src S2.grown
      have ho := ho.more hsz
      have HV := Lib.hid hv
      have HL := Lib.hid ho.len
      clear hv S2 hsz
      by_cases hj1 : 1 < j
      · go_wp2_with fail
        refine (one_any g q3 4 w2 D.s.src (by omega) (by omega) (by omega)).mono ?_
        rintro e w3 ⟨b, q4, rfl, hq4, hs4, hg4⟩
        have ho := ho.keptB hg4 D.s.gl
        have D := D.draw hs4 hg4
        clear hs4 hg4
        cases b with
        | true =>
          obtain ⟨G, ⟨C0, n0, d0⟩, rfl, hv0, c0, r0⟩ := D.at_ (j := 0) (by omega)
          obtain ⟨G', ⟨C1, n1, d1⟩, hG, hv1, c1, r1⟩ := D.at_ (j := 1) (by omega)
          cases hG
          have hzl := Lib.hid D.o.slen
          have hn0 : n0 = N := by have h1 := r0.len; have h2 := (HM.out 0 (by rw [hzl.out]; omega)).1; simp only [] at h1; omega
          have hn1 : n1 = N := by have h1 := r1.len; have h2 := (HM.out 1 (by rw [hzl.out]; omega)).1; simp only [] at h1; omega
          subst hn0
          subst hn1
          simp only [slv] at c0 c1
          have HC := Lib.hid (fun (W : World) (q : Nat) (h : DBv w W g q (some ⟨G, 0, none⟩) j d vs zss) => show (W.cell? ⟨G, 0, none⟩ = some (.slice C0 n1 d0) ∧ W.cell? ⟨G, 1, none⟩ = some (.slice C1 n1 d1)) ∧ RI W C0 n1 (row zss 0) ∧ RI W C1 n1 (row zss 1) from by
            obtain ⟨a1, a2⟩ := h.cell_ hv0
            obtain ⟨b1, b2⟩ := h.cell_ hv1
            exact ⟨⟨a1, b1⟩, a2, b2⟩)
          have hj0 : 0 < j := by omega
          clear r0 r1
          go_upto_region 5 with (fail)
          refine region_last (P := Tryz.prog) (S := fun w' => w'.cell? ⟨G, 0, none⟩ = some (.slice C0 n1 d0) ∧ w'.cell? ⟨G, 1, none⟩ = some (.slice C1 n1 d1)) (by kernel_rfl) (by simp only [List.getLast?_cons_cons, List.getLast?_singleton]; rfl) (by dsimp only [List.dropLast]) (by kernel_rfl) ?_ ?_
          · have := (HC.out _ _ (D.step (below_drewn w3 1))).1
            rwa [← World.drew_is_drewN] at this
          intro hS
          clear c0 c1
          refine wpAnyH_take (i := 0) (v := ?_) rfl (by kernel_rfl) (by kernel_rfl) (by kernel_rfl) (fun _ _ _ h => h) (Or.inl ⟨by rfl, ?_⟩) (by assumption) ?_
          rotate_left
          · (intro w hSw; (try dsimp only at hSw); go_simp; (try with_reducible rfl))
          simp only [Act.put, List.setIfInBounds_toArray, List.set_cons_zero, List.set_cons_succ]
          refine wpAnyH_take (i := 1) (v := ?_) rfl (by kernel_rfl) (by kernel_rfl) (by kernel_rfl) (fun _ _ _ h => h) (Or.inl ⟨by rfl, ?_⟩) (by assumption) ?_
          rotate_left
          · (intro w hSw; (try dsimp only at hSw); go_simp; (try with_reducible rfl))
          simp only [Act.put, List.setIfInBounds_toArray, List.set_cons_zero, List.set_cons_succ]
          refine wpAnyH_take (i := 2) (v := ?_) rfl (by kernel_rfl) (by kernel_rfl) (by kernel_rfl) (fun _ _ _ h => h) (Or.inl ⟨by rfl, ?_⟩) (by assumption) ?_
          rotate_left
          · (intro w hSw; (try dsimp only at hSw); go_simp; (try with_reducible rfl))
          simp only [Act.put, List.setIfInBounds_toArray, List.set_cons_zero, List.set_cons_succ]
          refine wpAnyH_take (i := 3) (v := ?_) rfl (by kernel_rfl) (by kernel_rfl) (by kernel_rfl) (fun _ _ _ h => h) (Or.inl ⟨by rfl, ?_⟩) (by assumption) ?_
          rotate_left
          · (intro w hSw; (try dsimp only at hSw); go_simp; (try with_reducible rfl))
          simp only [Act.put, List.setIfInBounds_toArray, List.set_cons_zero, List.set_cons_succ]
          refine wpAnyH_take (i := 4) (v := ?_) rfl (by kernel_rfl) (by kernel_rfl) (by kernel_rfl) (fun _ _ _ h => h) (Or.inl ⟨by rfl, ?_⟩) (by assumption) ?_
          rotate_left
          · (intro w hSw; (try dsimp only at hSw); go_simp; (try with_reducible rfl))
          simp only [Act.put, List.setIfInBounds_toArray, List.set_cons_zero, List.set_cons_succ]
          refine wpAnyH_take (i := 5) (v := ?_) rfl (by kernel_rfl) (by kernel_rfl) (by kernel_rfl) (fun _ _ _ h => h) (Or.inl ⟨by rfl, ?_⟩) (by assumption) ?_
          rotate_left
          · (intro w hSw; (try dsimp only at hSw); go_simp; (try with_reducible rfl))
          simp only [Act.put, List.setIfInBounds_toArray, List.set_cons_zero, List.set_cons_succ]
          refine wpAnyH_take (i := 6) (v := ?_) rfl (by kernel_rfl) (by kernel_rfl) (by kernel_rfl) (fun _ _ _ h => h) (Or.inl ⟨by rfl, ?_⟩) (by assumption) ?_
          rotate_left
          · (intro w hSw; (try dsimp only at hSw); go_simp; (try with_reducible rfl))
          simp only [Act.put, List.setIfInBounds_toArray, List.set_cons_zero, List.set_cons_succ]
          refine wpAnyH_take (i := 7) (v := ?_) rfl (by kernel_rfl) (by kernel_rfl) (by kernel_rfl) (fun _ _ _ h => h) (Or.inl ⟨by rfl, ?_⟩) (by assumption) ?_
          rotate_left
          · (intro w hSw; (try dsimp only at hSw); go_simp; (try with_reducible rfl))
          simp only [Act.put, List.setIfInBounds_toArray, List.set_cons_zero, List.set_cons_succ]
          refine wpAnyH_take (i := 8) (v := ?_) rfl (by kernel_rfl) (by kernel_rfl) (by kernel_rfl) (fun _ _ _ h => h) (Or.inl ⟨by rfl, ?_⟩) (by assumption) ?_
          rotate_left
          · (intro w hSw; (try dsimp only at hSw); go_simp; (try with_reducible rfl))
          simp only [Act.put, List.setIfInBounds_toArray, List.set_cons_zero, List.set_cons_succ]
          simp only [List.getElem_toArray, List.getElem_cons_succ, List.getElem_cons_zero]
          have D := D.step (below_drewn w3 1)
          have ho := ho.below (below_drewn w3 1)
          rw [← World.drew_is_drewN] at D ho
          generalize w3.drew = W at *
          refine wpAnyH_ready (rs := [9]) (by kernel_rfl) (by simp) ?_
          refine AllReadyH.cons rfl (fun K hK => ?_) AllReadyH.nil
          go_simp
          refine (HSz.out W D.s.grown).mono ?_
          rintro e w4 ⟨rfl, q5, rfl⟩
          dsimp only
          have D := D.step (below_drewn W q5)
          have ho := ho.below (below_drewn W q5)
          refine hK.out _ _ (HC.out _ _ D).1 (fun hS1 => ?_)
          clear hK K hS
          generalize W.drewN q5 = W at *
          refine wpAnyH_ready (rs := [10]) (by kernel_rfl) (by simp) ?_
          refine AllReadyH.cons rfl (fun K hK => ?_) AllReadyH.nil
          go_simp
          refine (pick_any g q4 Q W D.s.src (by omega) (by omega) (by omega)).mono ?_
          rintro e w5 ⟨x, q6, rfl, x0, x1, hq6, hs6, hg6⟩
          dsimp only
          have ho := ho.keptB hg6 D.s.gl
          have D := D.draw hs6 hg6
          refine hK.out _ _ (HC.out _ _ D).1 (fun hS2 => ?_)
          clear hK K hS1 hs6 hg6
          refine wpAnyH_ready (rs := [11]) (by kernel_rfl) (by simp) ?_
          refine AllReadyH.cons rfl (fun K hK => ?_) AllReadyH.nil
          go_simp
          obtain ⟨-, r0, r1⟩ := HC.out _ _ D
          refine (HLess.out w5 C0 d0 (row zss 0) C1 d1 (row zss 1) x D.s.grown r0 r1 (HM.out 0 (by rw [hzl.out]; omega)).2 (HM.out 1 (by rw [hzl.out]; omega)).2 ⟨x0, by omega⟩).mono ?_
          rintro e w6 ⟨A6, n6, c6, rfl, ho6, hb6⟩
          dsimp only
          have hl6 : n6 = n1 := by rw [← ho6.len, HLq.out, r0.len]
          subst hl6
          have hap6 := Lib.hid (D.new (Z := A6) (zn := n6) (zc := c6) (fun b hb => (ho6.os.lt hb).1))
          have hsz5 := D.s.size
          have D := D.step hb6
          have ho6 := ho6.more hsz5
          have HV6 := Lib.hid (HLv.out (row zss 0) (row zss 1) x)
          have HL6 := Lib.hid (HLq.out (row zss 0) (row zss 1) x |>.trans r0.len)
          refine hK.out _ _ (HC.out _ _ D).1 (fun hS3 => ?_)
          clear hK K hS2 r0 r1 ho hap HLess hb6
          generalize lessR P k f (row zss 0) (row zss 1) x = z6 at *
          refine wpAnyH_done (by kernel_rfl) ?_ _
          dsimp only [atEnd]
          have hsz := D.s.size
          go_wp2_with (at_builtin; refine app_row _ rfl (.tmp 39) (.tmp 41) rfl w.heap.size (some ⟨G, 0, none⟩) j d vs zss rfl D.o (A6, n6, c6) z6 ho6 hap6.out _ rfl (by simp) (by omega) hsz ?_; intro A3 c3 w7 ho3 hg3 hf3)
          have D := D.push ho3 hg3
          have HM2 := matQ_snoc HM.out HL6.out HV6.out
          clear ho3 hg3 hf3 ho6 hap6
          go_roundw
          case rel => exact ⟨j + 1, c3, q6, A3, _, rfl, by omega, D, HM2, by omega⟩
          case measure => simp [lenE]; omega
        | false =>
          have hsz := D.s.size
          go_wp2_with (at_builtin; refine app_row _ rfl (.tmp 39) (.tmp 41) rfl w.heap.size B j d vs zss rfl D.o (C, N, d2) z ho hap.out _ rfl (by simp) (by omega) hsz ?_; intro A3 c3 w5 ho3 hg3 hf3)
          have D := D.push ho3 hg3
          have HM2 := matQ_snoc HM.out HL.out HV.out
          clear ho3 hg3 hf3 ho hap
          go_roundw
          case rel => exact ⟨j + 1, c3, q4, A3, _, rfl, by omega, D, HM2, by omega⟩
          case measure => simp [lenE]; omega
      · have hsz := D.s.size
        go_wp2_with (at_builtin; refine app_row _ rfl (.tmp 39) (.tmp 41) rfl w.heap.size B j d vs zss rfl D.o (C, N, d2) z ho hap.out _ rfl (by simp) (by omega) hsz ?_; intro A3 c3 w5 ho3 hg3 hf3)
        have D := D.push ho3 hg3
        have HM2 := matQ_snoc HM.out HL.out HV.out
        clear ho3 hg3 hf3 ho hap
        go_roundw
        case rel => exact ⟨j + 1, c3, q3, A3, _, rfl, by omega, D, HM2, by omega⟩
        case measure => simp [lenE]; omega
    · obtain rfl : j = K := by omega
      go_wp2
      go_ret
      exact ⟨B, d, q, zss, rfl, D, hM, hq⟩
def RRo (w : World) (B : Nat) (A : Option Addr) (n c : Nat) (zss : List (List Int)) : Prop := ∃ (m : Nat) (vs : List Sl) (L : List (List Int)), OB w B A m c vs L ∧ n ≤ m ∧ zss = L.take n
section
variable {w w' : World} {B B' : Nat} {A : Option Addr} {n c : Nat} {zss : List (List Int)}
theorem RRo.reads (h : RRo w B A n c zss) : RR w A n zss := by
  obtain ⟨m, vs, L, h1, h2, rfl⟩ := h
  exact h1.reads.upto h2
theorem RRo.below (h : RRo w B A n c zss) (hb : Below w.heap.size w w') : RRo w' B A n c zss := by
  obtain ⟨m, vs, L, h1, h2, rfl⟩ := h
  exact ⟨m, vs, L, h1.below hb, h2, rfl⟩
theorem RRo.setLow (h : RRo w B A n c zss) {p : Addr} (hp : p.block < B) (u : Value) : RRo (w.setCell p u) B A n c zss := by
  obtain ⟨m, vs, L, h1, h2, rfl⟩ := h
  exact ⟨m, vs, L, h1.setLow hp u, h2, rfl⟩
theorem RRo.more (h : RRo w B A n c zss) (hB : B' ≤ B) : RRo w B' A n c zss := by
  obtain ⟨m, vs, L, h1, h2, rfl⟩ := h
  exact ⟨m, vs, L, h1.more hB, h2, rfl⟩
theorem RRo.cap (h : RRo w B A n c zss) : n ≤ c ∧ c ≤ 9223372036854775807 := by
  obtain ⟨m, vs, L, h1, h2, rfl⟩ := h
  have := h1.os.cap
  omega
theorem RRo.of_OB {vs : List Sl} (h : OB w B A n c vs zss) : RRo w B A n c zss := ⟨n, vs, zss, h, Nat.le_refl _, by rw [List.take_of_length_le]; rw [h.slen.2]; exact Nat.le_refl _⟩
end
set_option maxRecDepth 100000 in
theorem l17Form_own (g : Nat) (p : Int) (k : Nat) (A : Option Addr) (n c : Nat) (f : List Int) (M : Option Addr) (r rc nn : Nat) (rows : List (List Int)) (w : World) (h : FAt w g p k A n c f) (hf : FldOk p k f) (hr : RR w M r rows) (hm : MatQ (p ^ k) nn rows) (hr1 : 1 ≤ r) (hr32 : r ≤ 1000) (hn32 : nn ≤ 1000) :
    Calls Tryz.prog 52 #[.pointer (some ⟨g, 0, none⟩), .slice M r rc] w (fun e w' => ∃ A' np c', e = .returned (.slice A' np c') ∧ RRo w' w.heap.size A' np c' (formR p k f rows) ∧ np ≤ r ∧ Below w.heap.size w w') := by
  have hl := hr.len
  have h0 : 0 < rows.length := by omega
  obtain ⟨ad, Z, m, cz, rfl, hcell, hmz1, hmz2, hrz⟩ := hr.get (k := 0) (by omega)
  have hlm : m = nn := by have := (hm 0 h0).1; rw [← hrz.len, this]
  subst hlm
  have hcell : w.cell? ad = some (.slice Z m cz) := hcell
  obtain ⟨b0, o0, s0⟩ := ad
  have hcall := l17Reduce_any g p k A n c f (some ⟨b0, o0, s0⟩) r rc m m rows w h hf hr hm hr1 hr32 hn32 (Nat.le_refl _)
  have HM := Lib.hid hm
  have hpl := redTo_piv p k f rows m
  have HL := Lib.hid (show (row rows 0).length = m from hrz.len)
  clear hm hrz hr
  go_enter Tryz.func52, Tryz.ntmps52
  go_wp2_with fail
  refine hcall.mono ?_
  rintro e w2 ⟨A', c', vs, P', np, pc, rfl, hob, hpv, hb⟩
  have hnp := hpv.reads.len
  rw [hnp] at hpl
  obtain ⟨hcap1, hcap2⟩ := hob.os.cap
  go_wp2
  go_ret
  refine ⟨A', np, c', rfl, ⟨r, vs, _, hob, by omega, ?_⟩, by omega, hb⟩
  unfold formR
  rw [HL.out, hnp]
theorem formR_mat {p : Int} {k nn : Nat} {f : List Int} {rows : List (List Int)} (h0 : 0 < p) (h : MatQ (p ^ k) nn rows) : MatQ (p ^ k) nn (formR p k f rows) := fun i hi => by
  unfold formR at hi ⊢
  rw [List.length_take] at hi
  have hm := h.red h0 f (row rows 0).length
  have e : ∀ (R : List (List Int)) (t : Nat), i < t → row (R.take t) i = row R i := fun R t h => by unfold row; simp [List.getD_eq_getElem?_getD, List.getElem?_take, h]
  rw [e _ _ (by omega)]
  exact hm i (by omega)
set_option maxRecDepth 100000 in
set_option maxHeartbeats 1000000 in
theorem l18Own_any (g : Nat) (P : Int) (k : Nat) (A : Option Addr) (n c : Nat) (f : List Int) (w : World) (h : FAt w g P k A n c f) (hn : n ≤ 1099511627776) :
    Calls Tryz.prog 110 #[.pointer (some ⟨g, 0, none⟩)] w (RetF w P k f) := by
  have hb0 := below_alloc w (.cells #[.int .i64 0, .int .i64 0, .slice none 0 0] 31)
  have R := Blk.new w 31 #[.int .i64 0, .int .i64 0, .slice none 0 0]
  have h := h.keep hb0
  have HR := Lib.hid h.ri
  have HC := Lib.hid (fun (W : World) (hb : Below (w.alloc (.cells #[.int .i64 0, .int .i64 0, .slice none 0 0] 31)).heap.size (w.alloc (.cells #[.int .i64 0, .int .i64 0, .slice none 0 0] 31)) W) => show W.cell? ⟨g, 0, none⟩ = some (.int .i64 P) ∧ W.cell? ⟨g, 1, none⟩ = some (.int .i64 k) ∧ W.cell? ⟨g, 2, none⟩ = some (.slice A n c) from ⟨(h.keep hb).c0, (h.keep hb).c1, (h.keep hb).c2⟩)
  clear h
  go_enter Tryz.func110, Tryz.ntmps110
  go_upto_region 1 with (fail)
  generalize hW : w.alloc (.cells #[.int .i64 0, .int .i64 0, .slice none 0 0] 31) = W at *
  refine region_last (P := Tryz.prog) (S := fun w' => w'.cell? ⟨g, 0, none⟩ = some (.int .i64 P) ∧ w'.cell? ⟨g, 1, none⟩ = some (.int .i64 k) ∧ w'.cell? ⟨g, 2, none⟩ = some (.slice A n c)) (by kernel_rfl) (by simp only [List.getLast?_cons_cons, List.getLast?_singleton]; rfl) (by dsimp only [List.dropLast]) (by kernel_rfl) ?_ ?_
  · have := HC.out _ (below_drewn W 1)
    rwa [← World.drew_is_drewN] at this
  intro hS
  refine wpAnyH_take (i := 0) (v := ?_) rfl (by kernel_rfl) (by kernel_rfl) (by kernel_rfl) (fun _ _ _ h => h) (Or.inl ⟨by rfl, ?_⟩) (by assumption) ?_
  rotate_left
  · (intro w hSw; (try dsimp only at hSw); go_simp; (try with_reducible rfl))
  simp only [Act.put, List.setIfInBounds_toArray, List.set_cons_zero, List.set_cons_succ]
  refine wpAnyH_take (i := 1) (v := ?_) rfl (by kernel_rfl) (by kernel_rfl) (by kernel_rfl) (fun _ _ _ h => h) (Or.inl ⟨by rfl, ?_⟩) (by assumption) ?_
  rotate_left
  · (intro w hSw; (try dsimp only at hSw); go_simp; (try with_reducible rfl))
  simp only [Act.put, List.setIfInBounds_toArray, List.set_cons_zero, List.set_cons_succ]
  refine wpAnyH_take (i := 2) (v := ?_) rfl (by kernel_rfl) (by kernel_rfl) (by kernel_rfl) (fun _ _ _ h => h) (Or.inl ⟨by rfl, ?_⟩) (by assumption) ?_
  rotate_left
  · (intro w hSw; (try dsimp only at hSw); go_simp; (try with_reducible rfl))
  simp only [Act.put, List.setIfInBounds_toArray, List.set_cons_zero, List.set_cons_succ]
  refine wpAnyH_take (i := 3) (v := ?_) rfl (by kernel_rfl) (by kernel_rfl) (by kernel_rfl) (fun _ _ _ h => h) (Or.inl ⟨by rfl, ?_⟩) (by assumption) ?_
  rotate_left
  · (intro w hSw; (try dsimp only at hSw); go_simp; (try with_reducible rfl))
  simp only [Act.put, List.setIfInBounds_toArray, List.set_cons_zero, List.set_cons_succ]
  refine wpAnyH_take (i := 4) (v := ?_) rfl (by kernel_rfl) (by kernel_rfl) (by kernel_rfl) (fun _ _ _ h => h) (Or.inl ⟨by rfl, ?_⟩) (by assumption) ?_
  rotate_left
  · (intro w hSw; (try dsimp only at hSw); go_simp; (try with_reducible rfl))
  simp only [Act.put, List.setIfInBounds_toArray, List.set_cons_zero, List.set_cons_succ]
  refine wpAnyH_take (i := 5) (v := ?_) rfl (by kernel_rfl) (by kernel_rfl) (by kernel_rfl) (fun _ _ _ h => h) (Or.inl ⟨by rfl, ?_⟩) (by assumption) ?_
  rotate_left
  · (intro w hSw; (try dsimp only at hSw); go_simp; (try with_reducible rfl))
  simp only [Act.put, List.setIfInBounds_toArray, List.set_cons_zero, List.set_cons_succ]
  refine wpAnyH_take (i := 6) (v := ?_) rfl (by kernel_rfl) (by kernel_rfl) (by kernel_rfl) (fun _ _ _ h => h) (Or.inl ⟨by rfl, ?_⟩) (by assumption) ?_
  rotate_left
  · (intro w hSw; (try dsimp only at hSw); go_simp; (try with_reducible rfl))
  simp only [Act.put, List.setIfInBounds_toArray, List.set_cons_zero, List.set_cons_succ]
  refine wpAnyH_take (i := 7) (v := ?_) rfl (by kernel_rfl) (by kernel_rfl) (by kernel_rfl) (fun _ _ _ h => h) (Or.inl ⟨by rfl, ?_⟩) (by assumption) ?_
  rotate_left
  · (intro w hSw; (try dsimp only at hSw); go_simp; (try with_reducible rfl))
  simp only [Act.put, List.setIfInBounds_toArray, List.set_cons_zero, List.set_cons_succ]
  refine wpAnyH_take (i := 8) (v := ?_) rfl (by kernel_rfl) (by kernel_rfl) (by kernel_rfl) (fun _ _ _ h => h) (Or.inl ⟨by rfl, ?_⟩) (by assumption) ?_
  rotate_left
  · (intro w hSw; (try dsimp only at hSw); go_simp; (try with_reducible rfl))
  simp only [Act.put, List.setIfInBounds_toArray, List.set_cons_zero, List.set_cons_succ]
  refine wpAnyH_take (i := 9) (v := ?_) rfl (by kernel_rfl) (by kernel_rfl) (by kernel_rfl) (fun _ _ _ h => h) (Or.inl ⟨by rfl, ?_⟩) (by assumption) ?_
  rotate_left
  · (intro w hSw; (try dsimp only at hSw); go_simp; (try with_reducible rfl))
  simp only [Act.put, List.setIfInBounds_toArray, List.set_cons_zero, List.set_cons_succ]
  refine wpAnyH_take (i := 10) (v := ?_) rfl (by kernel_rfl) (by kernel_rfl) (by kernel_rfl) (fun _ _ _ h => h) (Or.inl ⟨by rfl, ?_⟩) (by assumption) ?_
  rotate_left
  · (intro w hSw; (try dsimp only at hSw); go_simp; (try with_reducible rfl))
  simp only [Act.put, List.setIfInBounds_toArray, List.set_cons_zero, List.set_cons_succ]
  refine wpAnyH_take (i := 11) (v := ?_) rfl (by kernel_rfl) (by kernel_rfl) (by kernel_rfl) (fun _ _ _ h => h) (Or.inl ⟨by rfl, ?_⟩) (by assumption) ?_
  rotate_left
  · (intro w hSw; (try dsimp only at hSw); go_simp; (try with_reducible rfl))
  simp only [Act.put, List.setIfInBounds_toArray, List.set_cons_zero, List.set_cons_succ]
  simp only [List.getElem_toArray, List.getElem_cons_succ, List.getElem_cons_zero]
  have hdr := below_drewn W 1
  rw [← World.drew_is_drewN] at hdr
  have R := R.after hdr
  generalize W.drew = W1 at *
  refine wpAnyH_ready (rs := [12]) (by kernel_rfl) (by simp) ?_
  refine AllReadyH.cons rfl (fun K hK => ?_) AllReadyH.nil
  go_simp
  refine (l00Own_any A n c f W1 (HR.out.keep hdr) hn).mono ?_
  rintro e w5 ⟨A5, n5, c5, rfl, ho5, hb5⟩
  dsimp only
  have hX5 := hdr.trans (hb5.mono hdr.size)
  refine hK.out _ _ (HC.out _ hX5) (fun hS1 => ?_)
  clear hK K hS
  refine wpAnyH_take (i := 13) (v := ?_) rfl (by kernel_rfl) (by kernel_rfl) (by kernel_rfl) (fun _ _ _ h => h) (Or.inl ⟨by rfl, ?_⟩) (by assumption) ?_
  rotate_left
  · (intro w hSw; (try dsimp only at hSw); go_simp; (try with_reducible rfl))
  simp only [Act.put, List.setIfInBounds_toArray, List.set_cons_zero, List.set_cons_succ]
  refine wpAnyH_done (by kernel_rfl) ?_ _
  dsimp only [atEnd]
  have hlt := R.lt
  have R := R.after hb5
  have hw5 := hb0.trans (hX5.mono hb0.size)
  have hres := (((ho5.setLow (p := ⟨w.heap.size, 0, none⟩) hlt (.int .i64 P)).setLow (p := ⟨w.heap.size, 1, none⟩) hlt (.int .i64 k)).setLow (p := ⟨w.heap.size, 2, none⟩) hlt (.slice A5 n5 c5)).more (B' := w.heap.size) (Nat.le_of_lt hlt)
  have hw9 := ((hw5.setCell (p := ⟨w.heap.size, 0, none⟩) (Nat.le_refl _) (.int .i64 P)).setCell (p := ⟨w.heap.size, 1, none⟩) (Nat.le_refl _) (.int .i64 k)).setCell (p := ⟨w.heap.size, 2, none⟩) (Nat.le_refl _) (.slice A5 n5 c5)
  have X9 := ((R.set_ 0 (.int .i64 P)).set_ 1 (.int .i64 k)).set_ 2 (.slice A5 n5 c5)
  obtain ⟨x0, x1, x2⟩ := R.cells3
  have f0 := R.frozen 0
  have f1 := R.frozen 1
  have f2 := R.frozen 2
  clear ho5 hb5 HR HC
  go_wp2
  clear x0 x1 x2
  obtain ⟨x0, x1, x2⟩ := X9.cells3
  exact bodyPost_ret (v := .agg #[.int .i64 P, .int .i64 k, .slice A5 n5 c5]) (by simp [results, Tryz.results110, go_sem, x0, x1, x2]) rfl ⟨A5, n5, c5, rfl, hres, hw9⟩
set_option maxHeartbeats 1000000 in
theorem fieldSize_spec (P : Int) (k : Nat) (A : Option Addr) (n c : Nat) (f : List Int) (w : World) (hr : RI w A n f) (hf : FldOk P k f) (hn : n ≤ 9223372036854775807) :
    Calls Tryz.prog 14 #[.agg #[.int .i64 P, .int .i64 k, .slice A n c]] w (fun e w' => e = .returned (.int .i64 (P ^ k)) ∧ Below w.heap.size w w') := by
  obtain ⟨p2, p61, k1, k6, q64, q2⟩ := hf.nums
  have hb0 := below_alloc w (.cells #[.int .i64 P, .int .i64 k, .slice A n c] 31)
  have X := Blk.new w 31 #[.int .i64 P, .int .i64 k, .slice A n c]
  have h := FAt.of_blk X (hr.keep hb0)
  have hz : FldZ P (k : Int) f := ⟨by omega, by rw [Int.toNat_natCast]; exact hf⟩
  have hok := l03Ok_any w.heap.size P k A n c f _ h ⟨by omega, by omega⟩ ⟨by omega, by omega⟩ hn
  rw [tB_yes hz] at hok
  have HS := Lib.hid (fun W (hb : Below (w.alloc (.cells #[.int .i64 P, .int .i64 k, .slice A n c] 31)).heap.size (w.alloc (.cells #[.int .i64 P, .int .i64 k, .slice A n c] 31)) W) => l03Size_any w.heap.size P k A n c f W (h.keep hb) p2 (by omega) k6)
  go_enter Tryz.func14, Tryz.ntmps14
  go_wp2_with fail
  refine hok.mono ?_
  rintro e w2 ⟨rfl, hb2⟩
  go_wp2_with fail
  refine (HS.out w2 hb2).mono ?_
  rintro e w3 ⟨rfl, q, rfl⟩
  have hw3 := hb0.trans ((hb2.trans ((below_drewn w2 q).mono hb2.size)).mono hb0.size)
  go_wp2
  go_ret
  exact ⟨rfl, hw3⟩
theorem Blk.cells4 {w : World} {g : Nat} {t : TypeId} {x y z u : Value} (h : Blk w g t #[x, y, z, u]) : w.cell? ⟨g, 0, none⟩ = some x ∧ w.cell? ⟨g, 1, none⟩ = some y ∧ w.cell? ⟨g, 2, none⟩ = some z ∧ w.cell? ⟨g, 3, none⟩ = some u := ⟨h.cell 0, h.cell 1, h.cell 2, h.cell 3⟩
def set4W (w : World) (g : Nat) (a b c d : Value) : World := (((w.setCell ⟨g, 0, none⟩ a).setCell ⟨g, 1, none⟩ b).setCell ⟨g, 2, none⟩ c).setCell ⟨g, 3, none⟩ d
theorem Blk.set4 {w : World} {g : Nat} {t : TypeId} {x y z u : Value} (h : Blk w g t #[x, y, z, u]) (a b c d : Value) : Blk (set4W w g a b c d) g t #[a, b, c, d] := by
  unfold set4W
  simpa using (((h.set_ 0 a).set_ 1 b).set_ 2 c).set_ 3 d
theorem below_set4 {B : Nat} {w0 w : World} {g : Nat} (h : Below B w0 w) (hg : B ≤ g) (a b c d : Value) : Below B w0 (set4W w g a b c d) :=
  (((h.setCell (p := ⟨g, 0, none⟩) hg a).setCell (p := ⟨g, 1, none⟩) hg b).setCell (p := ⟨g, 2, none⟩) hg c).setCell (p := ⟨g, 3, none⟩) hg d
theorem RRo.set4 {w : World} {B : Nat} {A : Option Addr} {n c : Nat} {zss : List (List Int)} (h : RRo w B A n c zss) {g : Nat} (hg : g < B) (a b x d : Value) : RRo (set4W w g a b x d) B A n c zss :=
  (((h.setLow (p := ⟨g, 0, none⟩) hg a).setLow (p := ⟨g, 1, none⟩) hg b).setLow (p := ⟨g, 2, none⟩) hg x).setLow (p := ⟨g, 3, none⟩) hg d
theorem OI.set4 {w : World} {B : Nat} {e : TypeId} {A : Option Addr} {n c : Nat} {zs : List Int} (h : OI w B e A n c zs) {g : Nat} (hg : g < B) (a b x d : Value) : OI (set4W w g a b x d) B e A n c zs :=
  (((h.setLow (p := ⟨g, 0, none⟩) hg a).setLow (p := ⟨g, 1, none⟩) hg b).setLow (p := ⟨g, 2, none⟩) hg x).setLow (p := ⟨g, 3, none⟩) hg d
theorem SrW.set4 {w w' : World} {g p rb : Nat} (h : SrW w w' g p) (hr : w.heap.size ≤ rb) (a b x d : Value) : SrW w (set4W w' rb a b x d) g p :=
  (((h.far (grown_set (g := rb) (p := 0) (u := a)) (fun b e => by injection e with e; omega)).far (grown_set (g := rb) (p := 1) (u := b)) (fun b e => by injection e with e; omega)).far (grown_set (g := rb) (p := 2) (u := x)) (fun b e => by injection e with e; omega)).far (grown_set (g := rb) (p := 3) (u := d)) (fun b e => by injection e with e; omega)
def RetMk (w : World) (P : Int) (k : Nat) (f : List Int) (M : Option Addr) (r rc : Nat) (e : Ending) (w' : World) : Prop := Below w.heap.size w w' ∧
  ((∃ A n c, e = .returned (.tuple #[.agg #[.int .i64 P, .int .i64 k, .slice A n c, .slice M r rc], .int .i64 0]) ∧ OI w' w.heap.size 2 A n c f ∧ 1 ≤ r ∧ r ≤ 8) ∨
   (∃ x : Int, (x = 5 ∨ x = 6) ∧ e = .returned (.tuple #[.agg #[.int .i64 0, .int .i64 0, .slice none 0 0, .slice none 0 0], .int .i64 x]) ∧ ¬ (1 ≤ r ∧ r ≤ 8 ∧ (P ^ k) ^ r ≤ 4096)))
set_option maxRecDepth 100000 in
set_option maxHeartbeats 2000000 in
theorem l18Make_any (g : Nat) (P : Int) (k : Nat) (A : Option Addr) (n c : Nat) (f : List Int) (M : Option Addr) (r rc : Nat) (w : World) (h : FAt w g P k A n c f) (hf : FldOk P k f) (hn : n ≤ 1099511627776) (hr : r ≤ 1048576) :
    Calls Tryz.prog 51 #[.pointer (some ⟨g, 0, none⟩), .slice M r rc] w (RetMk w P k f M r rc) := by
  obtain ⟨p2, p61, k1, k6, q64, q2⟩ := hf.nums
  have hb0 := below_alloc w (.cells #[.int .i64 0, .int .i64 0, .slice none 0 0, .slice none 0 0] 33)
  have R := Blk.new w 33 #[.int .i64 0, .int .i64 0, .slice none 0 0, .slice none 0 0]
  have HF := Lib.hid (h.keep hb0)
  generalize hW : w.alloc (.cells #[.int .i64 0, .int .i64 0, .slice none 0 0, .slice none 0 0] 33) = W at *
  have HS := Lib.hid (l03Size_any g P k A n c f W HF.out p2 (by omega) k6)
  have HO := Lib.hid (fun (W' : World) (hb : Below W.heap.size W W') => l18Own_any g P k A n c f W' (HF.out.keep hb) hn)
  generalize hQ : P ^ k = Q at *
  have HQ := Lib.hid hQ
  clear hQ
  have fin : ∀ (w5 : World) (x : Int), Below w.heap.size w w5 → Blk w5 w.heap.size 33 #[.int .i64 0, .int .i64 0, .slice none 0 0, .slice none 0 0] → Below w.heap.size w (set4W w5 w.heap.size (.int .i64 0) (.int .i64 0) (.slice none 0 0) (.slice none 0 0)) ∧ Blk (set4W w5 w.heap.size (.int .i64 0) (.int .i64 0) (.slice none 0 0) (.slice none 0 0)) w.heap.size 33 #[.int .i64 0, .int .i64 0, .slice none 0 0, .slice none 0 0] := fun w5 x hb R => ⟨below_set4 hb (Nat.le_refl _) _ _ _ _, R.set4 _ _ _ _⟩
  by_cases h0 : r = 0
  · subst h0
    have hF := fin W 0 hb0 R
    obtain ⟨y0, y1, y2, y3⟩ := R.cells4
    have f0 := R.frozen 0
    have f1 := R.frozen 1
    have f2 := R.frozen 2
    have f3 := R.frozen 3
    obtain ⟨hbF, RF⟩ := hF
    obtain ⟨z0, z1, z2, z3⟩ := RF.cells4
    unfold set4W at hbF z0 z1 z2 z3
    clear HS HO fin
    go_enter Tryz.func51, Tryz.ntmps51
    go_wp2
    exact bodyPost_ret (v := .tuple #[.agg #[.int .i64 0, .int .i64 0, .slice none 0 0, .slice none 0 0], .int .i64 6]) (by simp [results, Tryz.results51, go_sem, z0, z1, z2, z3]) rfl ⟨hbF, .inr ⟨6, .inr rfl, rfl, fun h => absurd h.1 (by omega)⟩⟩
  · have hr0 : ¬ (r : Int) = 0 := by omega
    by_cases h8 : 8 < r
    · have hr8 : (8 : Int) < r := by omega
      have hF := fin W 0 hb0 R
      obtain ⟨y0, y1, y2, y3⟩ := R.cells4
      have f0 := R.frozen 0
      have f1 := R.frozen 1
      have f2 := R.frozen 2
      have f3 := R.frozen 3
      obtain ⟨hbF, RF⟩ := hF
      obtain ⟨z0, z1, z2, z3⟩ := RF.cells4
      unfold set4W at hbF z0 z1 z2 z3
      clear HS HO fin
      go_enter Tryz.func51, Tryz.ntmps51
      go_wp2
      exact bodyPost_ret (v := .tuple #[.agg #[.int .i64 0, .int .i64 0, .slice none 0 0, .slice none 0 0], .int .i64 5]) (by simp [results, Tryz.results51, go_sem, z0, z1, z2, z3]) rfl ⟨hbF, .inr ⟨5, .inl rfl, rfl, fun h => absurd h.2.1 (by omega)⟩⟩
    · have hr8 : ¬ (8 : Int) < r := by omega
      go_enter Tryz.func51, Tryz.ntmps51
      go_wp2_with fail
      refine HS.out.mono ?_
      rintro e w2 ⟨rfl, q5, rfl⟩
      have hd := below_drewn W q5
      have R := R.after hd
      have HO := Lib.hid (HO.out _ hd)
      have hw2 := hb0.trans (hd.mono hb0.size)
      generalize W.drewN q5 = W2 at *
      clear HS hd
      go_wp2_with fail
      refine (l18Count_any Q r W2 q2 q64 (by omega)).mono ?_
      rintro e w3 ⟨rfl, hw3⟩
      rw [hw3]
      clear hw3 w3
      by_cases hc : Q ^ r ≤ 4096
      · have hcn : cntW Q r = Q ^ r := by unfold cntW; rw [if_pos hc]
        have hc1 : Q ^ r ≠ 0 := by
          have : 0 < Q ^ r := Int.pow_pos (by omega)
          omega
        have hc2 : (Q ^ r == 0) = false := by simp [hc1]
        rw [hcn]
        generalize Q ^ r = Z at *
        go_wp2_with fail
        refine HO.out.mono ?_
        rintro e w4 ⟨A4, n4, c4, rfl, ho4, hb4⟩
        have hlt := R.lt
        have R := R.after hb4
        have hw4 := hw2.trans (hb4.mono hw2.size)
        have ho9 := (ho4.set4 hlt (.int .i64 P) (.int .i64 k) (.slice A4 n4 c4) (.slice M r rc)).more (B' := w.heap.size) (Nat.le_of_lt hlt)
        have hbF := below_set4 hw4 (Nat.le_refl _) (.int .i64 P) (.int .i64 k) (.slice A4 n4 c4) (.slice M r rc)
        have RF := R.set4 (.int .i64 P) (.int .i64 k) (.slice A4 n4 c4) (.slice M r rc)
        obtain ⟨y0, y1, y2, y3⟩ := R.cells4
        have f0 := R.frozen 0
        have f1 := R.frozen 1
        have f2 := R.frozen 2
        have f3 := R.frozen 3
        obtain ⟨z0, z1, z2, z3⟩ := RF.cells4
        unfold set4W at hbF z0 z1 z2 z3 ho9
        clear HO fin
        go_wp2
        exact bodyPost_ret (v := .tuple #[.agg #[.int .i64 P, .int .i64 k, .slice A4 n4 c4, .slice M r rc], .int .i64 0]) (by simp [results, Tryz.results51, go_sem, z0, z1, z2, z3]) rfl ⟨hbF, .inl ⟨A4, n4, c4, rfl, ho9, by omega, by omega⟩⟩
      · have hcn : cntW Q r = 0 := by unfold cntW; rw [if_neg hc]
        rw [hcn]
        have hF := fin W2 0 hw2 R
        obtain ⟨y0, y1, y2, y3⟩ := R.cells4
        have f0 := R.frozen 0
        have f1 := R.frozen 1
        have f2 := R.frozen 2
        have f3 := R.frozen 3
        obtain ⟨hbF, RF⟩ := hF
        obtain ⟨z0, z1, z2, z3⟩ := RF.cells4
        unfold set4W at hbF z0 z1 z2 z3
        have HC := Lib.hid hc
        clear HO fin hc
        go_wp2
        exact bodyPost_ret (v := .tuple #[.agg #[.int .i64 0, .int .i64 0, .slice none 0 0, .slice none 0 0], .int .i64 5]) (by simp [results, Tryz.results51, go_sem, z0, z1, z2, z3]) rfl ⟨hbF, .inr ⟨5, .inl rfl, rfl, fun h => by rw [HQ.out] at h; have := HC.out; omega⟩⟩
theorem pk_two {P : Int} {k : Nat} (hP : 2 ≤ P) (hk : 1 ≤ k) (h : P ^ k = 2) : P = 2 ∧ k = 1 := by
  have h1 := pow_mono (p := P) (by omega) hk
  rw [Int.pow_succ, Int.pow_zero, Int.one_mul] at h1
  obtain rfl : P = 2 := by omega
  refine ⟨rfl, ?_⟩
  rcases Nat.lt_or_ge 1 k with h2 | h2
  · have h3 := pow_mono (p := 2) (by omega) (show 2 ≤ k by omega)
    rw [show (2 : Int) ^ 2 = 4 by decide] at h3
    omega
  · omega
theorem allB_of_mat {n : Nat} {M : List (List Int)} (h : MatQ 2 n M) : AllB n M := all_of_rows fun i hi => ⟨(h i hi).1, fun j hj => by have := (h i hi).2 j (by rw [(h i hi).1]; exact hj); omega⟩
def DrC (P : Int) (k : Nat) (f : List Int) (rows : List (List Int)) : Prop := ∃ nn, MatQ (P ^ k) nn rows ∧ 1 ≤ nn ∧ nn ≤ 32 ∧ (P ^ k = 2 → formR P k f rows = rows)
theorem drC_form {P : Int} {k nn : Nat} {f : List Int} {M : List (List Int)} (hf : FldOk P k f) (h : MatQ (P ^ k) nn M) (h0 : 0 < M.length) (h1 : 1 ≤ nn) (h2 : nn ≤ 32) (h3 : 0 < (formR P k f M).length) : DrC P k f (formR P k f M) := by
  obtain ⟨p2, p61, k1, k6, q64, q2⟩ := hf.nums
  refine ⟨nn, formR_mat (by omega) h, h1, h2, fun e => ?_⟩
  obtain ⟨rfl, rfl⟩ := pk_two p2 k1 e
  have hB := allB_of_mat h
  exact rref_form hf (form_two hf hB h0).1 h3
theorem drC_one {P : Int} {k : Nat} {f : List Int} (hf : FldOk P k f) : DrC P k f [[1]] := by
  obtain ⟨p2, p61, k1, k6, q64, q2⟩ := hf.nums
  refine ⟨1, fun i hi => ?_, Nat.le_refl _, by omega, fun e => ?_⟩
  · have : i = 0 := by simpa using hi
    subst this
    exact ⟨rfl, fun j hj => by
      have : j = 0 := by simpa [row] using hj
      subst this
      exact ⟨by decide, by show (1 : Int) < P ^ k; omega⟩⟩
  · obtain ⟨rfl, rfl⟩ := pk_two p2 k1 e
    refine rref_form (n := 1) hf ⟨[0], ⟨fun r hr => ?_, by decide, fun i hi => ?_, fun i hi => ?_, fun i j hi hj hne => ?_, fun i hi d hd => ?_, fun j h1 h2 => ?_, fun i j hij hj => ?_⟩, rfl⟩ (by decide)
    · rw [List.mem_singleton.1 hr]
      exact ⟨rfl, fun i hi => .inr (by obtain rfl : i = 0 := by omega
                                       rfl)⟩
    · obtain rfl : i = 0 := by simpa using hi
      decide
    · obtain rfl : i = 0 := by simpa using hi
      decide
    · simp at hi hj; omega
    · obtain rfl : i = 0 := by simpa using hi
      exact absurd hd (by simp [nth])
    · simp at h1 h2; omega
    · simp at hj; omega
theorem vecQ_set {Q u : Int} {z : List Int} (h : VecQ Q z) (j : Nat) (h0 : 0 ≤ u) (h1 : u < Q) : VecQ Q (z.set j u) := fun i hi => by
  rw [List.length_set] at hi
  rw [nth_set hi]
  split
  · exact ⟨h0, h1⟩
  · exact h i hi
def RetDC (w : World) (g p : Nat) (e : Ending) (w' : World) : Prop := ∃ (P : Int) (k : Nat) (A : Option Addr) (n c : Nat) (M : Option Addr) (r rc : Nat) (rows : List (List Int)) (q : Nat), e = .returned (.agg #[.int .i64 P, .int .i64 k, .slice A n c, .slice M r rc]) ∧
  (P, k) ∈ PKL ∧ OI w' w.heap.size 2 A n c (mkP P k) ∧ RRo w' w.heap.size M r rc rows ∧ 1 ≤ r ∧ DrC P k (mkP P k) rows ∧ SrW w w' g q
structure DSt (w wx : World) (g q gf : Nat) (P : Int) (k : Nat) (A : Option Addr) (n c : Nat) (f : List Int) : Prop where
  R : Blk wx w.heap.size 33 #[.int .i64 0, .int .i64 0, .slice none 0 0, .slice none 0 0]
  X : Blk wx gf 31 #[.int .i64 P, .int .i64 k, .slice A n c]
  o : OI wx (w.heap.size + 1) 2 A n c f
  S : SrW w wx g q
  lt : g < gf ∧ w.heap.size < gf
theorem DSt.draw {w wx w' : World} {g q q' gf : Nat} {P : Int} {k : Nat} {A : Option Addr} {n c : Nat} {f : List Int} (h : DSt w wx g q gf P k A n c f) (hs : Src w' g q') (hg : wx.grownBy w' (some g)) : DSt w w' g q' gf P k A n c f := by
  have h1 := h.S.gl
  have h2 := h.lt
  exact ⟨h.R.grown hg (fun e => by injection e with e; omega), h.X.grown hg (fun e => by injection e with e; omega), h.o.keptB hg (by omega), h.S.next hs hg, h2⟩
set_option maxRecDepth 100000 in
set_option maxHeartbeats 8000000 in
theorem l18Draw_any (g p : Nat) (w : World) (hs : Src w g p) (hp : p ≤ 35184372088832) :
    Calls Tryz.prog 47 #[.pointer (some ⟨g, 0, none⟩)] w (RetDC w g p) := by
  have S := (SrW.start hs).step (below_alloc w (.cells #[.int .i64 0, .int .i64 0, .slice none 0 0, .slice none 0 0] 33))
  have R := Blk.new w 33 #[.int .i64 0, .int .i64 0, .slice none 0 0, .slice none 0 0]
  have hgl := S.gl
  clear hs
  go_enter Tryz.func47, Tryz.ntmps47
  go_wp2_with fail
  generalize w.alloc (.cells #[.int .i64 0, .int .i64 0, .slice none 0 0, .slice none 0 0] 33) = W at *
  refine (l17DrawField_any g p W S.src (by omega)).mono ?_
  rintro e w1 ⟨P, k, A, n, c, q1, rfl, hm, ho, S1, hq1⟩
  have hlW := R.lt
  have R := R.grown S1.grown (fun e => by injection e with e; omega)
  have ho := ho.more (B' := w.heap.size + 1) hlW
  have S := S.then_ S1
  have hsz := S.size
  have hba := below_alloc w1 (.cells #[.int .i64 P, .int .i64 k, .slice A n c] 31)
  have X := Blk.new w1 31 #[.int .i64 P, .int .i64 k, .slice A n c]
  have hgf : g < w1.heap.size ∧ w.heap.size < w1.heap.size := ⟨by omega, R.lt⟩
  have R := R.after hba
  have ho := ho.below hba
  have S := S.step hba
  obtain ⟨hz, hlP⟩ := mkP_ok hm
  have hf : FldOk P k (mkP P k) := by have := hz.2; rwa [Int.toNat_natCast] at this
  have hn : n ≤ 100 := by have h1 := ho.len; have h2 := hf.nums; omega
  clear hlP
  generalize hfm : mkP P k = f at *
  have HFm := Lib.hid hfm
  clear hfm
  obtain ⟨p2, p61, k1, k6, q64, q2⟩ := hf.nums
  clear S1 hba hz
  go_wp2_with fail
  generalize w1.alloc (.cells #[.int .i64 P, .int .i64 k, .slice A n c] 31) = W1 at *
  generalize w1.heap.size = gf at *
  refine (pick_any g q1 3 W1 S.src (by omega) (by omega) (by omega)).mono ?_
  rintro e w2 ⟨x, q2', rfl, x0, x1, hq2, hs2, hg2⟩
  have R := R.grown hg2 (fun e => by injection e with e; omega)
  have X := X.grown hg2 (fun e => by injection e with e; omega)
  have ho := ho.keptB hg2 (by omega)
  have S := S.next hs2 hg2
  clear hs2 hg2
  obtain ⟨K, hK⟩ : ∃ K : Nat, 1 + x = (K : Int) := ⟨(1 + x).toNat, by omega⟩
  go_wp2_with fail
  try rw [hK]
  refine (pick_any g q2' 5 w2 S.src (by omega) (by omega) (by omega)).mono ?_
  rintro e w3 ⟨y, q3, rfl, y0, y1, hq3, hs3, hg3⟩
  have R := R.grown hg3 (fun e => by injection e with e; omega)
  have X := X.grown hg3 (fun e => by injection e with e; omega)
  have ho := ho.keptB hg3 (by omega)
  have S := S.next hs3 hg3
  clear hs3 hg3
  obtain ⟨N, hN⟩ : ∃ N : Nat, (K : Int) + y = (N : Int) := ⟨((K : Int) + y).toNat, by omega⟩
  have hK1 : 1 ≤ K ∧ K ≤ 3 := by omega
  have hN1 : K ≤ N ∧ N ≤ 7 := by omega
  clear x0 x1 y0 y1
  have D : DSt w w3 g q3 gf P k A n c f := ⟨R, X, ho, S, hgf⟩
  obtain ⟨e0, e1, e2⟩ := X.cells3
  clear R X ho S
  go_upto_region 4 with (fail)
  go_cut [29] (fun s29 wx => ∃ (b : Bool) (q4 : Nat), s29 = .bool b ∧ (b = true → P = 2 ∧ k = 1) ∧ q4 ≤ q3 + 2 ∧ DSt w wx g q4 gf P k A n c f)
  case first =>
    by_cases hP2 : P = 2
    · by_cases hk1 : k = 1
      · have hPk := And.intro hP2 hk1
        subst hP2
        subst hk1
        go_wp2_with fail
        refine (one_any g q3 2 w3 D.S.src (by omega) (by omega) (by omega)).mono ?_
        rintro e w4 ⟨b, q4, rfl, hq4, hs4, hg4⟩
        have D := D.draw hs4 hg4
        go_wp2
        go_meet
        exact ⟨b, q4, rfl, fun _ => by simp, by omega, D⟩
      · have hk1' : ¬ (k : Int) = 1 := by omega
        subst hP2
        go_wp2
        go_meet
        exact ⟨false, q3, rfl, fun h => absurd h (by simp), by omega, D⟩
    · go_wp2
      go_meet
      exact ⟨false, q3, rfl, fun h => absurd h (by simp), by omega, D⟩
  case rest =>
    obtain ⟨b, q4, rfl, hb, hq4, D⟩ := hcut
    clear e0 e1 e2
    go_upto_if 29 with (fail)
    go_cut [4, 5] (fun s4 s5 wx => ∃ (K N q5 : Nat), s4 = .int .i64 K ∧ s5 = .int .i64 N ∧ (K ≤ 5 ∧ 1 ≤ K ∧ K ≤ N ∧ N ≤ 11) ∧ q5 ≤ p + 20 ∧ DSt w wx g q5 gf P k A n c f)
    case first =>
      cases b with
      | true =>
        go_wp2_with fail
        refine (pick_any g q4 3 wc D.S.src (by omega) (by omega) (by omega)).mono ?_
        rintro e w4' ⟨x, q4', rfl, x0, x1, hq4', hs4, hg4⟩
        have D := D.draw hs4 hg4
        clear hs4 hg4
        obtain ⟨K', hK'⟩ : ∃ K' : Nat, (K : Int) + x = (K' : Int) := ⟨((K : Int) + x).toNat, by omega⟩
        go_wp2_with fail
        (try rw [hK'])
        refine (pick_any g q4' 6 w4' D.S.src (by omega) (by omega) (by omega)).mono ?_
        rintro e w5 ⟨y, q5, rfl, y0, y1, hq5, hs5, hg5⟩
        have D := D.draw hs5 hg5
        clear hs5 hg5
        obtain ⟨N', hN'⟩ : ∃ N' : Nat, (K' : Int) + 1 + y = (N' : Int) := ⟨((K' : Int) + 1 + y).toNat, by omega⟩
        have hKN : K' ≤ 5 ∧ 1 ≤ K' ∧ K' ≤ N' ∧ N' ≤ 11 := by omega
        clear x0 x1 y0 y1
        go_wp2
        go_meet
        exact ⟨K', N', q5, rfl, rfl, hKN, by omega, D⟩
      | false =>
        go_wp2
        go_meet
        exact ⟨K, N, q4, rfl, rfl, by omega, by omega, D⟩
    case rest =>
      obtain ⟨K, N, q5, rfl, rfl, hKN, hq5p, ⟨R, X, ho, S, hgf⟩⟩ := hcut
      have hXl := X.lt
      have hRl := R.lt
      have hAl5 : ∀ b, blk A = some b → b < wc.heap.size := fun b hb => (ho.os.lt hb).2
      clear hN hK1 hN1 hK D
      generalize wc = w5 at *
      have hqm : (4 * N + 4) * K ≤ (4 * 11 + 4) * 5 := Nat.mul_le_mul (by omega) (by omega)
      have hHF : ∀ W, w5.grownBy W (some g) → FAt W gf P k A n c f := fun W hW => FAt.of_blk (X.grown hW (fun e => by injection e with e; omega)) (ho.keptB hW (by omega)).reads
      go_wp2_with fail
      refine (l17DrawRows_any g q5 gf P k A n c f K N w5 S.src (by omega) hHF hf (by omega) (by omega)).mono ?_
      rintro e w6 ⟨A6, c6, q6, M0, rfl, D, hM, hq6⟩
      have R := R.grown D.s.grown (fun e => by injection e with e; omega)
      have X := X.grown D.s.grown (fun e => by injection e with e; omega)
      have ho := ho.keptB D.s.grown (by omega)
      have hlow : g < w5.heap.size ∧ gf < w5.heap.size ∧ w.heap.size < w5.heap.size := ⟨D.s.gl, hXl, hRl⟩
      have hAl : ∀ b, blk A = some b → b < w5.heap.size := hAl5
      obtain ⟨vs, D⟩ := D.v
      have hM0 := Lib.hid D.o.slen
      have HM := Lib.hid hM
      clear hM hHF
      obtain ⟨G, ⟨C0, n0, d0⟩, rfl, hv0, cc0, r0⟩ := D.at_ (j := 0) (by omega)
      have hn0 : n0 = N := by have h1 := r0.len; have h2 := (HM.out 0 (by rw [hM0.out]; omega)).1; simp only [] at h1; omega
      subst hn0
      simp only [slv] at cc0
      have HC := Lib.hid (fun (W : World) (q : Nat) (h : DBv w5 W g q (some ⟨G, 0, none⟩) K c6 vs M0) => show W.cell? ⟨G, 0, none⟩ = some (.slice C0 n0 d0) from (h.cell_ hv0).1)
      have hK0 : 0 < K := by omega
      go_upto_region 8 with (fail)
      refine region_suf (P := Tryz.prog) (n := 6) (S := fun w' => w'.cell? ⟨G, 0, none⟩ = some (.slice C0 n0 d0)) (by kernel_rfl) (by simp only [List.take_succ_cons, List.take_zero]; rfl) (by simp only [List.drop_succ_cons, List.drop_zero]; rfl) (by kernel_rfl) ?_ ?_
      · have := HC.out _ _ (D.step (below_drewn w6 1))
        rwa [← World.drew_is_drewN] at this
      intro hS
      clear cc0 r0
      refine wpAnyH_take (i := 0) (v := ?_) rfl (by kernel_rfl) (by kernel_rfl) (by kernel_rfl) (fun _ _ _ h => h) (Or.inl ⟨by rfl, ?_⟩) (by assumption) ?_
      rotate_left
      · (intro w hSw; (try dsimp only at hSw); go_simp; (try with_reducible rfl))
      simp only [Act.put, List.setIfInBounds_toArray, List.set_cons_zero, List.set_cons_succ]
      refine wpAnyH_take (i := 1) (v := ?_) rfl (by kernel_rfl) (by kernel_rfl) (by kernel_rfl) (fun _ _ _ h => h) (Or.inl ⟨by rfl, ?_⟩) (by assumption) ?_
      rotate_left
      · (intro w hSw; (try dsimp only at hSw); go_simp; (try with_reducible rfl))
      simp only [Act.put, List.setIfInBounds_toArray, List.set_cons_zero, List.set_cons_succ]
      refine wpAnyH_take (i := 2) (v := ?_) rfl (by kernel_rfl) (by kernel_rfl) (by kernel_rfl) (fun _ _ _ h => h) (Or.inl ⟨by rfl, ?_⟩) (by assumption) ?_
      rotate_left
      · (intro w hSw; (try dsimp only at hSw); go_simp; (try with_reducible rfl))
      simp only [Act.put, List.setIfInBounds_toArray, List.set_cons_zero, List.set_cons_succ]
      refine wpAnyH_take (i := 3) (v := ?_) rfl (by kernel_rfl) (by kernel_rfl) (by kernel_rfl) (fun _ _ _ h => h) (Or.inl ⟨by rfl, ?_⟩) (by assumption) ?_
      rotate_left
      · (intro w hSw; (try dsimp only at hSw); go_simp; (try with_reducible rfl))
      simp only [Act.put, List.setIfInBounds_toArray, List.set_cons_zero, List.set_cons_succ]
      refine wpAnyH_take (i := 4) (v := ?_) rfl (by kernel_rfl) (by kernel_rfl) (by kernel_rfl) (fun _ _ _ h => h) (Or.inl ⟨by rfl, ?_⟩) (by assumption) ?_
      rotate_left
      · (intro w hSw; (try dsimp only at hSw); go_simp; (try with_reducible rfl))
      simp only [Act.put, List.setIfInBounds_toArray, List.set_cons_zero, List.set_cons_succ]
      simp only [List.getElem_toArray, List.getElem_cons_succ, List.getElem_cons_zero]
      have hd6 := below_drewn w6 1
      rw [← World.drew_is_drewN] at hd6
      have D := D.step hd6
      have R := R.after hd6
      have X := X.after hd6
      have ho := ho.below hd6
      clear hd6
      generalize w6.drew = W6 at *
      refine wpAnyH_ready (rs := [5]) (by kernel_rfl) (by simp) ?_
      refine AllReadyH.cons rfl (fun K' hK' => ?_) AllReadyH.nil
      go_simp
      refine (pick_any g q6 (n0 : Int) W6 D.s.src (by omega) (by omega) (by omega)).mono ?_
      rintro e w7 ⟨z, q7, rfl, z0, z1, hq7, hs7, hg7⟩
      dsimp only
      obtain ⟨z, rfl⟩ := Int.eq_ofNat_of_zero_le z0
      have D := D.draw hs7 hg7
      have R := R.grown hg7 (fun e => by injection e with e; omega)
      have X := X.grown hg7 (fun e => by injection e with e; omega)
      have ho := ho.keptB hg7 (by omega)
      refine hK'.out _ _ (HC.out _ _ D) (fun hS1 => ?_)
      clear hK' K' hS hs7 hg7 z0
      refine wpAnyH_done (by kernel_rfl) ?_ _
      dsimp only [atEnd]
      have hrow := (HM.out 0 (by rw [hM0.out]; omega)).1
      obtain ⟨G', rr, mm, kk, T⟩ := D.o.at2 (i := 0) (j := z) (by omega) (by rw [hrow]; omega)
      cases T.ha
      have hco := T.co
      rw [HC.out _ _ D] at hco
      cases hco
      have hci := T.ci
      have hfi := T.fi
      have hbr := T.br
      have DO := T.set 1 ⟨by omega, by omega⟩
      have hM8 : MatQ (P ^ k) n0 (M0.set 0 ((row M0 0).set z 1)) := HM.out.set ⟨by rw [List.length_set]; exact hrow, vecQ_set (HM.out 0 (by rw [hM0.out]; omega)).2 z (by omega) (by omega)⟩
      have S := (S.then_ D.s).far (grown_set (g := rr) (p := z) (u := .int .i64 1)) (fun b e => by injection e with e; omega)
      have R := R.far (p := ⟨rr, z, none⟩) (by show w.heap.size ≠ rr; omega) (.int .i64 1)
      have X := X.far (p := ⟨rr, z, none⟩) (by show gf ≠ rr; omega) (.int .i64 1)
      have ho := ho.kept (grown_set (g := rr) (p := z) (u := .int .i64 1)) (.inr fun e => by have := hAl rr e; omega)
      have hM8l : 0 < (M0.set 0 ((row M0 0).set z 1)).length := by rw [List.length_set, hM0.out]; omega
      have D8 := (show OR _ _ _ _ _ _ _ _ from ⟨_, DO⟩ : OR (w7.setCell ⟨rr, z, none⟩ (.int .i64 1)) w5.heap.size 22 2 (some ⟨G, 0, none⟩) K c6 (M0.set 0 ((row M0 0).set z 1))).reads
      clear HC HM D hS1 hv0 T hrow DO hlow hAl
      have HFA := Lib.hid (FAt.of_blk X ho.reads)
      generalize M0.set 0 ((row M0 0).set z 1) = M8 at *
      go_wp2_with fail
      generalize w7.setCell ⟨rr, z, none⟩ (.int .i64 1) = w8 at *
      refine (l17Form_own gf P k A n c f _ K c6 n0 M8 w8 HFA.out hf D8 hM8 (by omega) (by omega) (by omega)).mono ?_
      rintro e w9 ⟨A9, np, c9, rfl, hF, hnp, hb9⟩
      have hz8 := R.lt
      have R := R.after hb9
      have X := X.after hb9
      have ho := ho.below hb9
      have S := S.step hb9
      have hF := hF.more (B' := w.heap.size + 1) (by omega)
      clear HFA D8
      go_wp2_with fail
      refine (l18Make_any gf P k A n c f A9 np c9 w9 (FAt.of_blk X ho.reads) hf (by omega) (by omega)).mono ?_
      rintro e w10 ⟨hb10, hcase⟩
      have hz9 := R.lt
      have R := R.after hb10
      have X := X.after hb10
      have ho := ho.below hb10
      have hF := hF.below hb10
      have S := S.step hb10
      rcases hcase with ⟨A10, n10, c10, rfl, ho10, r1, r8⟩ | ⟨v, hv, rfl, -⟩
      · have hba := below_alloc w10 (.cells #[.int .i64 P, .int .i64 k, .slice A10 n10 c10, .slice A9 np c9] 33)
        have Z := Blk.new w10 33 #[.int .i64 P, .int .i64 k, .slice A10 n10 c10, .slice A9 np c9]
        have R := R.after hba
        have hF := hF.below hba
        have ho10 := (ho10.below hba).more (B' := w.heap.size + 1) (by omega)
        have S := S.step hba
        have hgood := drC_form hf hM8 hM8l (by omega) (by omega) (by rw [hF.reads.len]; omega)
        have RF := R.set4 (.int .i64 P) (.int .i64 k) (.slice A10 n10 c10) (.slice A9 np c9)
        have hF9 := (hF.set4 (g := w.heap.size) (Nat.lt_succ_self _) (.int .i64 P) (.int .i64 k) (.slice A10 n10 c10) (.slice A9 np c9)).more (B' := w.heap.size) (Nat.le_succ _)
        have hO9 := (ho10.set4 (g := w.heap.size) (Nat.lt_succ_self _) (.int .i64 P) (.int .i64 k) (.slice A10 n10 c10) (.slice A9 np c9)).more (B' := w.heap.size) (Nat.le_succ _)
        have SF := S.set4 (rb := w.heap.size) (Nat.le_refl _) (.int .i64 P) (.int .i64 k) (.slice A10 n10 c10) (.slice A9 np c9)
        obtain ⟨a0, a1, a2, a3⟩ := R.cells4
        obtain ⟨b0, b1, b2, b3⟩ := Z.cells4
        have f0 := R.frozen 0
        have f1 := R.frozen 1
        have f2 := R.frozen 2
        have f3 := R.frozen 3
        obtain ⟨d0', d1', d2', d3'⟩ := RF.cells4
        unfold set4W at hF9 hO9 SF d0' d1' d2' d3'
        clear hF ho10 S hb10 hb9
        go_wp2
        exact bodyPost_ret (v := .agg #[.int .i64 P, .int .i64 k, .slice A10 n10 c10, .slice A9 np c9]) (by simp [results, Tryz.results47, go_sem, d0', d1', d2', d3']) rfl ⟨P, k, A10, n10, c10, A9, np, c9, _, _, rfl, hm, by rw [HFm.out]; exact hO9, hF9, r1, by rw [HFm.out]; exact hgood, SF⟩
      · have hv0 : ¬ v = 0 := by omega
        have hba := below_alloc w10 (.cells #[.int .i64 0, .int .i64 0, .slice none 0 0, .slice none 0 0] 33)
        have R := R.after hba
        have X := X.after hba
        have ho := ho.below hba
        have S := S.step hba
        obtain ⟨x0, x1, x2⟩ := X.cells3
        clear hF hb10 hb9 hba hM8 hM8l hv
        go_upto_region 10 with (fail)
        generalize w10.alloc (.cells #[.int .i64 0, .int .i64 0, .slice none 0 0, .slice none 0 0] 33) = W at *
        have F := lit_OB W (w.heap.size + 1) [[1]] (by have := R.lt; omega) (by decide) (fun r hr => by
          rw [List.mem_singleton.1 hr]
          exact ⟨fun x hx => by rw [List.mem_singleton.1 hx]; unfold I64; omega, by decide⟩)
        have b1 := allocs_below 2 [[1]] W
        have b2 := below_then b1 (below_alloc _ (.cells ((hdrs W.heap.size [[1]]).map slv).toArray 22))
        have R5 := R.after b2
        have ho5 := ho.below b2
        have S5 := S.step b2
        obtain ⟨y0, y1, y2, y3⟩ := R5.cells4
        have f0 := R5.frozen 0
        have f1 := R5.frozen 1
        have f2 := R5.frozen 2
        have f3 := R5.frozen 3
        have RF := R5.set4 (.int .i64 P) (.int .i64 k) (.slice A n c) (.slice (some ⟨W.heap.size + 1, 0, none⟩) 1 1)
        obtain ⟨z0, z1, z2, z3⟩ := RF.cells4
        have F9 := ((RRo.of_OB F).set4 (g := w.heap.size) (Nat.lt_succ_self _) (.int .i64 P) (.int .i64 k) (.slice A n c) (.slice (some ⟨W.heap.size + 1, 0, none⟩) 1 1)).more (B' := w.heap.size) (Nat.le_succ _)
        have O9 := (ho5.set4 (g := w.heap.size) (Nat.lt_succ_self _) (.int .i64 P) (.int .i64 k) (.slice A n c) (.slice (some ⟨W.heap.size + 1, 0, none⟩) 1 1)).more (B' := w.heap.size) (Nat.le_succ _)
        have SF := S5.set4 (rb := w.heap.size) (Nat.le_refl _) (.int .i64 P) (.int .i64 k) (.slice A n c) (.slice (some ⟨W.heap.size + 1, 0, none⟩) 1 1)
        unfold set4W at F9 O9 SF z0 z1 z2 z3
        clear F RF R5 R b1 b2 ho ho5 S S5 X
        simp only [allocs, hdrs, ints, List.map_cons, List.map_nil, slv, List.length_cons, List.length_nil, Nat.zero_add, Nat.reduceAdd] at y0 y1 y2 y3 f0 f1 f2 f3 z0 z1 z2 z3 F9 O9 SF
        go_wp2
        exact bodyPost_ret (v := .agg #[.int .i64 P, .int .i64 k, .slice A n c, .slice (some ⟨W.heap.size + 1, 0, none⟩) 1 1]) (by simp [results, Tryz.results47, go_sem, z0, z1, z2, z3]) rfl ⟨P, k, A, n, c, _, 1, 1, [[1]], _, rfl, hm, by rw [HFm.out]; exact O9, F9, Nat.le_refl _, by rw [HFm.out]; exact drC_one hf, SF⟩
def RetVC (w : World) (e : Ending) (w' : World) : Prop := ∃ (P : Int) (k : Nat) (A : Option Addr) (n c : Nat) (M : Option Addr) (r rc : Nat) (rows : List (List Int)), e = .returned (.agg #[.int .i64 P, .int .i64 k, .slice A n c, .slice M r rc]) ∧
  (P, k) ∈ PKL ∧ OI w' w.heap.size 2 A n c (mkP P k) ∧ RRo w' w.heap.size M r rc rows ∧ 1 ≤ r ∧ DrC P k (mkP P k) rows ∧ Below w.heap.size w w'
set_option maxRecDepth 100000 in
set_option maxHeartbeats 1000000 in
theorem v8Code_any (A : Option Addr) (n c : Nat) (bs : List Int) (w : World) (ha : RS EByte w A n bs) (hn : n ≤ 9223372036854775807) :
    Calls Tryz.prog 13 #[.slice A n c] w (RetVC w) := by
  have hb0 := below_alloc w (.cells #[.int .i64 0, .int .i64 0, .slice none 0 0, .slice none 0 0] 33)
  have R := Blk.new w 33 #[.int .i64 0, .int .i64 0, .slice none 0 0, .slice none 0 0]
  have hfr := l00From_any A n c bs _ (EBytes.keep ha hb0) hn
  have hsz := Lib.hid (show (w.alloc (.cells #[.int .i64 0, .int .i64 0, .slice none 0 0, .slice none 0 0] 33)).heap.size = w.heap.size + 1 by simp)
  generalize hW : w.alloc (.cells #[.int .i64 0, .int .i64 0, .slice none 0 0, .slice none 0 0] 33) = W at *
  go_enter Tryz.func13, Tryz.ntmps13
  go_wp2_with fail
  refine hfr.mono ?_
  rintro e w1 ⟨rfl, hs1, hb1⟩
  have R := R.after hb1
  have S := SrW.start hs1
  have hw1 := hb0.trans (hb1.mono hb0.size)
  clear hfr
  go_wp2_with fail
  refine (l18Draw_any W.heap.size 0 w1 S.src (by omega)).mono ?_
  rintro e w2 ⟨P, k, A2, n2, c2, M, r, rc, rows, q, rfl, hm, ho, hF, r1, hd, S2⟩
  have hlt := R.lt
  have R := R.grown S2.grown (fun e => by injection e with e; have := hsz.out; omega)
  have S := S.then_ S2
  have hw2 : Below w.heap.size w w2 := ⟨S.grown.os.trans hw1.os, S.grown.tape.trans hw1.tape, S.grown.output.trans hw1.output, Nat.le_trans hw1.size S.size, fun j hj => by
    rw [S.grown.block j (Nat.lt_of_lt_of_le hj hw1.size) (fun e => by injection e with e; have := hsz.out; omega)]
    exact hw1.block j hj⟩
  have RF := R.set4 (.int .i64 P) (.int .i64 k) (.slice A2 n2 c2) (.slice M r rc)
  have hF9 := (hF.set4 (g := w.heap.size) hlt (.int .i64 P) (.int .i64 k) (.slice A2 n2 c2) (.slice M r rc)).more (B' := w.heap.size) (Nat.le_of_lt hlt)
  have hO9 := (ho.set4 (g := w.heap.size) hlt (.int .i64 P) (.int .i64 k) (.slice A2 n2 c2) (.slice M r rc)).more (B' := w.heap.size) (Nat.le_of_lt hlt)
  have hwF := below_set4 hw2 (Nat.le_refl _) (.int .i64 P) (.int .i64 k) (.slice A2 n2 c2) (.slice M r rc)
  obtain ⟨a0, a1, a2, a3⟩ := R.cells4
  have f0 := R.frozen 0
  have f1 := R.frozen 1
  have f2 := R.frozen 2
  have f3 := R.frozen 3
  obtain ⟨d0, d1, d2, d3⟩ := RF.cells4
  unfold set4W at hF9 hO9 hwF d0 d1 d2 d3
  clear hF ho S S2 hs1 hb1
  go_wp2
  exact bodyPost_ret (v := .agg #[.int .i64 P, .int .i64 k, .slice A2 n2 c2, .slice M r rc]) (by simp [results, Tryz.results13, go_sem, d0, d1, d2, d3]) rfl ⟨P, k, A2, n2, c2, M, r, rc, rows, rfl, hm, hO9, hF9, r1, hd, hwF⟩
set_option maxRecDepth 100000 in
set_option maxHeartbeats 2000000 in
theorem makeCode_ok (P : Int) (k : Nat) (A : Option Addr) (n c : Nat) (f : List Int) (M : Option Addr) (r rc nn : Nat) (rows : List (List Int)) (w : World) (ha : RI w A n f) (hf : FldOk P k f) (hn : n ≤ 1099511627776) (hr : RR w M r rows) (hm : MatQ (P ^ k) nn rows) (r1 : 1 ≤ r) (r32 : r ≤ 32) (n1 : 1 ≤ nn) (n32 : nn ≤ 32)
    (g1 : 1 ≤ (formR P k f rows).length) (g8 : (formR P k f rows).length ≤ 8) (gq : (P ^ k) ^ (formR P k f rows).length ≤ 4096) :
    Calls Tryz.prog 16 #[.agg #[.int .i64 P, .int .i64 k, .slice A n c], .slice M r rc] w (fun e w' => ∃ A' n' c' M' r' rc', e = .returned (.tuple #[.agg #[.int .i64 P, .int .i64 k, .slice A' n' c', .slice M' r' rc'], .int .i64 0]) ∧ RI w' A' n' f ∧ RR w' M' r' (formR P k f rows) ∧ (r' ≤ rc' ∧ rc' ≤ 9223372036854775807) ∧ Below w.heap.size w w') := by
  obtain ⟨p2, p61, k1, k6, q64, q2⟩ := hf.nums
  have hb0 := below_then (below_alloc w (.cells #[.int .i64 P, .int .i64 k, .slice A n c] 31)) (below_alloc _ (.cells #[.int .i64 0, .int .i64 0, .slice none 0 0, .slice none 0 0] 33))
  have X := (Blk.new w 31 #[.int .i64 P, .int .i64 k, .slice A n c]).alloc (.cells #[.int .i64 0, .int .i64 0, .slice none 0 0, .slice none 0 0] 33)
  have R : Blk ((w.alloc (.cells #[.int .i64 P, .int .i64 k, .slice A n c] 31)).alloc (.cells #[.int .i64 0, .int .i64 0, .slice none 0 0, .slice none 0 0] 33)) (w.heap.size + 1) 33 #[.int .i64 0, .int .i64 0, .slice none 0 0, .slice none 0 0] := by
    have := Blk.new (w.alloc (.cells #[.int .i64 P, .int .i64 k, .slice A n c] 31)) 33 #[.int .i64 0, .int .i64 0, .slice none 0 0, .slice none 0 0]
    simpa using this
  generalize hW : (w.alloc (.cells #[.int .i64 P, .int .i64 k, .slice A n c] 31)).alloc (.cells #[.int .i64 0, .int .i64 0, .slice none 0 0, .slice none 0 0] 33) = W at *
  have hFA := FAt.of_blk X (ha.keep hb0)
  have hrl := hr.len
  have hM0 : MatOk P (k : Int) f rows := by
    have h0 := (hm 0 (by omega)).1
    refine ⟨⟨by omega, by rw [Int.toNat_natCast]; exact hf⟩, ⟨by omega, by omega⟩, ⟨by omega, by omega⟩, ?_⟩
    rw [Int.toNat_natCast, h0]
    exact hm
  have hok := l17Ok_any w.heap.size P k A n c f M r rc rows W hFA ⟨by omega, by omega⟩ ⟨by omega, by omega⟩ (by omega) (hr.keep hb0) (by omega)
  rw [tB_yes hM0] at hok
  have HFO := Lib.hid (fun (W' : World) (hb : Below W.heap.size W W') => l17Form_own w.heap.size P k A n c f M r rc nn rows W' (hFA.keep hb) hf ((hr.keep hb0).keep hb) hm r1 (by omega) (by omega))
  have HMK := Lib.hid (fun (W' : World) (hb : Below W.heap.size W W') (M' : Option Addr) (r' rc' : Nat) (h : r' ≤ 1048576) => l18Make_any w.heap.size P k A n c f M' r' rc' W' (hFA.keep hb) hf hn h)
  have HG := Lib.hid (And.intro g1 (And.intro g8 gq))
  have HL := Lib.hid hrl
  clear hm hFA hM0 g1 g8 gq hrl
  go_enter Tryz.func16, Tryz.ntmps16
  go_wp2_with fail
  refine hok.mono ?_
  rintro e w2 ⟨rfl, hb2⟩
  clear hok
  go_wp2_with fail
  refine (HFO.out w2 hb2).mono ?_
  rintro e w3 ⟨A3, np, c3, rfl, hF, hnp, hb3⟩
  have hb23 := hb2.trans (hb3.mono hb2.size)
  go_wp2_with fail
  refine (HMK.out w3 hb23 A3 np c3 (by omega)).mono ?_
  rintro e w4 ⟨hb4, hcase⟩
  have hb24 := hb23.trans (hb4.mono hb23.size)
  have hl3 := hF.reads.len
  have hlt2 : w.heap.size + 1 < w2.heap.size := (R.after hb2).lt
  have hlt3 : w.heap.size + 1 < w3.heap.size := (R.after hb23).lt
  have R := R.after hb24
  have hw4 := hb0.trans (hb24.mono hb0.size)
  have hF := hF.below hb4
  rcases hcase with ⟨A4, n4, c4, rfl, ho4, q1, q8⟩ | ⟨v, hv, rfl, hno⟩
  · have RF := R.set4 (.int .i64 P) (.int .i64 k) (.slice A4 n4 c4) (.slice A3 np c3)
    have hF9 := hF.set4 (g := w.heap.size + 1) hlt2 (.int .i64 P) (.int .i64 k) (.slice A4 n4 c4) (.slice A3 np c3)
    have hO9 := ho4.set4 (g := w.heap.size + 1) hlt3 (.int .i64 P) (.int .i64 k) (.slice A4 n4 c4) (.slice A3 np c3)
    have hwF := below_set4 hw4 (Nat.le_succ _) (.int .i64 P) (.int .i64 k) (.slice A4 n4 c4) (.slice A3 np c3)
    obtain ⟨a0, a1, a2, a3⟩ := R.cells4
    have f0 := R.frozen 0
    have f1 := R.frozen 1
    have f2 := R.frozen 2
    have f3 := R.frozen 3
    obtain ⟨d0, d1, d2, d3⟩ := RF.cells4
    unfold set4W at hF9 hO9 hwF d0 d1 d2 d3
    clear hF ho4 hl3 HFO HMK
    go_wp2
    exact bodyPost_ret (v := .tuple #[.agg #[.int .i64 P, .int .i64 k, .slice A4 n4 c4, .slice A3 np c3], .int .i64 0]) (by simp [results, Tryz.results16, go_sem, d0, d1, d2, d3]) rfl ⟨A4, n4, c4, A3, np, c3, rfl, hO9.reads, hF9.reads, hF9.cap, hwF⟩
  · exfalso
    obtain ⟨g1, g8, gq⟩ := HG.out
    exact hno ⟨by omega, by omega, by rw [← hl3]; exact gq⟩
def shP (n st : Nat) : List Int := (List.range n).map fun (j : Nat) => (((j + st) % n : Nat) : Int)
theorem shP_nth {n st j : Nat} (h : j < n) : nth (shP n st) j = (((j + st) % n : Nat) : Int) := by
  unfold shP
  rw [nth_map_range, if_pos h]
theorem shP_perm {n st : Nat} (_ : 1 ≤ n) : PermN n (shP n st) := by
  refine ⟨by simp [shP], perm_of (n := n) (by simp [shP]) (fun v hv => ?_) (fun u v hu hv e => ?_)⟩
  · rw [shP_nth hv]
    have := Nat.mod_lt (v + st) (show 0 < n by omega)
    omega
  · rw [shP_nth hu, shP_nth hv] at e
    have e : (u + st) % n = (v + st) % n := by omega
    have h1 := Nat.div_add_mod (u + st) n
    have h2 := Nat.div_add_mod (v + st) n
    rw [e] at h1
    rcases Nat.lt_trichotomy ((u + st) / n) ((v + st) / n) with h | h | h
    · have := Nat.mul_le_mul_left n (show (u + st) / n + 1 ≤ (v + st) / n by omega)
      rw [Nat.mul_succ] at this
      omega
    · rw [h] at h1; omega
    · have := Nat.mul_le_mul_left n (show (v + st) / n + 1 ≤ (u + st) / n by omega)
      rw [Nat.mul_succ] at this
      omega
theorem sh_step {n st j : Nat} {z : List Int} (h : j < n) : (thenP (shP n st) z).take j ++ [nth z ((j + st) % n)] = (thenP (shP n st) z).take (j + 1) := by
  have hl : (shP n st).length = n := by simp [shP]
  rw [List.take_succ_eq_append_getElem (by rw [thenP_len, hl]; exact h), ← nth_get, thenP_nth (by rw [hl]; exact h), shP_nth h, Int.toNat_natCast]
theorem sh_row {n st i : Nat} {R : List (List Int)} (h : i < R.length) : (R.map (thenP (shP n st))).take i ++ [thenP (shP n st) (row R i)] = (R.map (thenP (shP n st))).take (i + 1) := by
  rw [List.take_succ_eq_append_getElem (by rw [List.length_map]; exact h), List.getElem_map, row_get h]
theorem mat_two {n : Nat} {R : List (List Int)} (h : AllB n R) : MatQ (2 ^ 1) n R := fun i hi => by
  have b := row_bv h hi
  exact ⟨b.1, fun j hj => by
    have h2 := b.2 j (by rw [b.1] at hj; exact hj)
    have : (2 : Int) ^ 1 = 2 := rfl
    omega⟩
theorem cg_two {n : Nat} {f : List Int} {xs : List (List Int)} (hf : FldOk 2 1 f) (hx : AllB n xs) (n7 : n ≤ 7) (k1 : 1 ≤ xs.length) (k3 : xs.length ≤ 3) : cgK 2 1 f xs = 0 ∧ GraphOk (cgC 2 1 f xs) (cgE 2 1 f xs) := by
  have hx0 : (row xs 0).length = n := (row_bv hx (by omega)).1
  have c1 : cdB 2 1 f n xs = supsW (wB n xs xs.length) := by unfold cdB; rw [words_two hf hx (Nat.le_refl _)]
  have l1 : (supsW (wB n xs xs.length)).length ≤ 7 := by
    rw [supsW_len, wB_len]
    have : 2 ^ xs.length ≤ 2 ^ 3 := Nat.pow_le_pow_right (by decide) k3
    omega
  have h3 := dsE_len n (supsW (wB n xs xs.length)) n
  have h4 : n * (supsW (wB n xs xs.length)).length ≤ 7 * 7 := Nat.mul_le_mul n7 l1
  have hF : dsF n (supsW (wB n xs xs.length)) = false := by
    unfold dsF
    simp
    omega
  have g4 := ds_graphOk (v := n) (bs := supsW (wB n xs xs.length)) (by omega) (by omega)
  obtain ⟨d1, d2, d3⟩ := cd_yes (p := 2) (k := 1) (f := f) (m := n) (rows := xs) rfl
  unfold cgK cgC cgE
  rw [show (1 : Int).toNat = 1 from rfl, hx0, d1, d2, d3, c1, dgK, dgC, dgE, hF]
  exact ⟨rfl, g4⟩
theorem equiv_plain {n st : Nat} {f : List Int} {xs : List (List Int)} (hf : FldOk 2 1 f) (hx : AllB n xs) (hid : formR 2 1 f xs = xs) (n1 : 1 ≤ n) (n7 : n ≤ 7) (k1 : 1 ≤ xs.length) (k3 : xs.length ≤ 3) :
    CodeOk 2 1 f xs ∧ (formR 2 1 f (xs.map (thenP (shP n st)))).length = xs.length ∧
    ((eqcK 2 1 f xs 2 1 f (formR 2 1 f (xs.map (thenP (shP n st)))) 1500 = 0 ∧ eqcR 2 1 f xs 2 1 f (formR 2 1 f (xs.map (thenP (shP n st)))) 1500 = true) ∨ eqcK 2 1 f xs 2 1 f (formR 2 1 f (xs.map (thenP (shP n st)))) 1500 = 5) := by
  have hs := shP_perm (st := st) n1
  have hR := code_rref hf hx (by omega) hid
  obtain ⟨e1, e2, -⟩ := words_perm hf hs hR (by omega)
  have ok : ∀ ys, AllB n ys → ys.length = xs.length → formR 2 1 f ys = ys → CodeOk 2 1 f ys := fun ys hy hl hi => by
    have h0 : (row ys 0).length = n := (row_bv hy (by omega)).1
    refine ⟨⟨⟨by decide, hf⟩, ⟨by omega, by omega⟩, ⟨by omega, by omega⟩, ?_⟩, by omega, ?_, hi⟩
    · rw [h0]; exact mat_two hy
    · have h1 : (((2 : Int) ^ (1 : Int).toNat) ^ ys.length) ≤ 2 ^ 3 := by
        rw [show ((2 : Int) ^ (1 : Int).toNat) = 2 from rfl]
        exact pow_mono (p := 2) (by decide) (by omega)
      have : (2 : Int) ^ 3 = 8 := by decide
      omega
  have hyB : AllB n (formR 2 1 f (xs.map (thenP (shP n st)))) := by obtain ⟨P, h, -⟩ := e2; exact h.mat
  have o1 := ok xs hx rfl hid
  have o2 := ok _ hyB e1 (rref_form hf e2 (by omega))
  exact ⟨o1, e1, eqc_two hf hs o1 o2 rfl hx n7 rfl k1 k3 (by decide)⟩
set_option maxHeartbeats 800000 in
theorem specValidGraph_any (A : Option Addr) (n c : Nat) (F : Option Addr) (m d : Nat) (cs : List Int) (es : List Ed) (w : World) (h : RG w A n F m cs es) (hn : n ≤ 9223372036854775807) (hm : m ≤ 9223372036854775807) (hG : GraphOk cs es) :
    Calls Tryz.prog 18 #[.agg #[.slice A n c, .slice F m d]] w (fun e w' => e = .returned (.bool true) ∧ Below w.heap.size w w') := by
  have hb := below_alloc w (.cells #[.slice A n c, .slice F m d] 46)
  have X := Blk.new w 46 #[.slice A n c, .slice F m d]
  obtain ⟨x0, x1⟩ := X.cells2
  have hok := l21Ok_any A n c F m d cs es _ (h.keep hb) hn hm
  rw [tB_yes hG] at hok
  go_enter Tryz.func18, Tryz.ntmps18
  go_wp2_with fail
  refine hok.mono ?_
  rintro e w2 ⟨rfl, hb2⟩
  have hw := hb.trans (hb2.mono hb.size)
  clear hok
  go_wp2
  go_ret
  exact ⟨rfl, hw⟩
set_option maxRecDepth 100000 in
set_option maxHeartbeats 8000000 in
theorem law_Equivalent_ok (A0 : Option Addr) (n0 c0 : Nat) (bs : List Int) (A1 : Option Addr) (n1 c1 : Nat) (ys : List Int) (w : World) (ha : RS EByte w A0 n0 bs) (hn0 : n0 ≤ 1048576) (hb : RS EByte w A1 n1 ys) (hn1 : n1 ≤ 1048576) :
    Calls Tryz.prog 4 #[.slice A0 n0 c0, .slice A1 n1 c1] w fun e w' => e = .returned (.bool true) ∧ Below w.heap.size w w' := by
  go_enter Tryz.func4, Tryz.ntmps4
  go_wp2_with fail
  refine (v8Long_no A0 n0 c0 A1 n1 c1 w hn0 hn1).mono ?_
  rintro e w0 ⟨rfl, rfl⟩
  go_wp2_with fail
  refine (v8Code_any A0 n0 c0 bs _ ha (by omega)).mono ?_
  rintro e w1 ⟨P, k, A, n, c, M, r, rc, rows, rfl, hm, ho, hF, r1, ⟨nn, hM, m1, m32, hid⟩, hb1⟩
  have hba := below_alloc w1 (.cells #[.int .i64 P, .int .i64 k, .slice A n c, .slice M r rc] 33)
  have X := Blk.new w1 33 #[.int .i64 P, .int .i64 k, .slice A n c, .slice M r rc]
  have hri := ho.reads.keep hba
  have hrr := hF.reads.keep hba
  have hcap := hF.cap
  have hrl := Lib.hid hrr.len
  have hw2 := hb1.trans (hba.mono hb1.size)
  obtain ⟨hz, hlP⟩ := mkP_ok hm
  have hf : FldOk P k (mkP P k) := by have := hz.2; rwa [Int.toNat_natCast] at this
  have hn : n ≤ 100 := by have h1 := ho.len; have h2 := hf.nums; omega
  generalize mkP P k = f at *
  clear hz hlP ho hF hba hb1 hm
  obtain ⟨p2, p61, k1, k6, q64, q2⟩ := hf.nums
  obtain ⟨ad, Z, mz, cz, rfl, hcell, z1, z2, hrz⟩ := hrr.get (k := 0) (by omega)
  have hmz : mz = nn := by have := (hM 0 (by rw [hrl.out]; omega)).1; rw [← hrz.len, this]
  subst hmz
  have hcell : (w1.alloc (.cells #[.int .i64 P, .int .i64 k, .slice A n c, .slice (some ad) r rc] 33)).cell? ad = some (.slice Z mz cz) := hcell
  obtain ⟨x0, x1, x2, x3⟩ := X.cells4
  have hr0 : 0 < r := by omega
  have HFS := Lib.hid (fun W (h : RI W A n f) => fieldSize_spec P k A n c f W h hf (by omega))
  have Hid := Lib.hid hid
  have HMat := Lib.hid hM
  obtain ⟨b0, o0, s0⟩ := ad
  clear hid hM
  go_wp2_with fail
  clear x0 x1 x2 x3 hcell
  generalize w1.alloc (.cells #[.int .i64 P, .int .i64 k, .slice A n c, .slice (some ⟨b0, o0, s0⟩) r rc] 33) = W at *
  generalize w1.heap.size = gc at *
  refine (HFS.out W hri).mono ?_
  rintro e w2 ⟨rfl, hb2⟩
  have X := X.after hb2
  have hri := hri.keep hb2
  have hrr := hrr.keep hb2
  have hw3 := hw2.trans (hb2.mono hw2.size)
  clear hb2 hw2 HFS
  obtain ⟨x0, x1, x2, x3⟩ := X.cells4
  by_cases hq : P ^ k = 2
  · obtain ⟨rfl, rfl⟩ := pk_two p2 k1 hq
    have hAB := Lib.hid (allB_of_mat (M := rows) (n := mz) HMat.out)
    have Hid := Lib.hid (Hid.out rfl)
    clear HMat hq p2 p61 k1 k6 q64 q2
    by_cases hr3 : r ≤ 3
    · have hr3' : ¬ (3 : Int) < r := by omega
      by_cases hn7 : mz ≤ 7
      · have hn7' : ¬ (7 : Int) < mz := by omega
        go_wp2_with fail
        clear x0 x1 x2 x3
        refine (v8At_any A1 n1 c1 ys 0 mz w2 (EBytes.keep hb hw3) (by omega) (by omega) (by omega) (by omega)).mono ?_
        rintro e w3' ⟨⟨x, rfl, v0, v1⟩, hww⟩
        subst hww
        obtain ⟨st, hst⟩ : ∃ st : Nat, 1 + x = (st : Int) := ⟨(1 + x).toNat, by omega⟩
        have hst8 : st ≤ 8 := by omega
        clear v0 v1
        have hPl := Lib.hid (equiv_plain (st := st) hf hAB.out Hid.out m1 hn7 (by rw [hrl.out]; omega) (by rw [hrl.out]; omega))
        have hCG := Lib.hid (cg_two hf hAB.out hn7 (by rw [hrl.out]; omega) (by rw [hrl.out]; omega))
        have hmm := Lib.hid (map_bv (shP_perm (st := st) m1) hAB.out)
        have hba := below_alloc w2 (.cells #[] 22)
        have ho0 : OR (w2.alloc (.cells #[] 22)) w2.heap.size 22 2 (some ⟨w2.heap.size, 0, none⟩) 0 0 ((rows.map (thenP (shP mz st))).take 0) := OR.of_own (OS.lit w2 w2.heap.size 22 1 0 #[] (Nat.le_refl _) rfl (by omega)) (by decide)
        go_wp2
        (try rw [hst])
        go_loopw [8, 9] (fun rv iv wr => ∃ (i : Nat) (T : Option Addr) (e : Nat), i ≤ r ∧ iv = .int .i64 i ∧ rv = .slice T i e ∧ OR wr w2.heap.size 22 2 T i e ((rows.map (thenP (shP mz st))).take i) ∧ Below w2.heap.size w2 wr) (fun _ iv _ => r - (intOf iv).toNat)
        case atStart => exact ⟨0, _, 0, Nat.zero_le _, rfl, rfl, ho0, hba⟩
        case round =>
          clear ho0 hba
          obtain ⟨i, T, e, hi, rfl, rfl, ho, hwr⟩ := hrel
          generalize wr = wo at *
          have X := X.after hwr
          obtain ⟨x0, x1, x2, x3⟩ := X.cells4
          have hrr := hrr.keep hwr
          by_cases hlt : i < r
          · obtain ⟨ad', Zi, mi, ci, hadi, hci, y1, y2, hzi⟩ := hrr.get hlt
            cases hadi
            have hmi : mi = mz := by have := (row_bv hAB.out (i := i) (by rw [hrl.out]; exact hlt)).1; rw [← hzi.len, this]
            subst hmi
            have hba := below_alloc wo (.cells #[] 2)
            have hq0 : OI (wo.alloc (.cells #[] 2)) wo.heap.size 2 (some ⟨wo.heap.size, 0, none⟩) 0 0 ((thenP (shP mi st) (row rows i)).take 0) := ⟨OS.lit wo wo.heap.size 2 1 0 #[] (Nat.le_refl _) rfl (by omega), fun _ h => by cases h⟩
            go_wp2
            go_loopw [10, 11] (fun ov jv wx => ∃ (j : Nat) (Q : Option Addr) (d : Nat), j ≤ mi ∧ jv = .int .i64 j ∧ ov = .slice Q j d ∧ OI wx wo.heap.size 2 Q j d ((thenP (shP mi st) (row rows i)).take j) ∧ Below wo.heap.size wo wx) (fun _ jv _ => mi - (intOf jv).toNat)
            case atStart => exact ⟨0, _, 0, Nat.zero_le _, rfl, rfl, hq0, hba⟩
            case round =>
              clear hq0 hba
              obtain ⟨j, Q, d, hj, rfl, rfl, hq, hwx⟩ := hrel
              generalize wr = wx at *
              by_cases hjl : j < mi
              · obtain ⟨t, ht⟩ : ∃ t : Nat, (j + st) % mi = t := ⟨_, rfl⟩
                have htl : t < mi := by rw [← ht]; exact Nat.mod_lt _ (by omega)
                have hst2 := Lib.hid (sh_step (st := st) (z := row rows i) hjl)
                rw [ht] at hst2
                obtain ⟨ai, rfl, hcz, hzI⟩ := hzi.get htl
                have HL := Lib.hid (fun (W : World) (hb : Below wo.heap.size wo W) => show W.cell? ⟨gc, 3, none⟩ = some (.slice (some ⟨b0, o0, s0⟩) r rc) ∧ W.cell? ((⟨b0, o0, s0⟩ : Addr).add i) = some (.slice (some ai) mi ci) ∧ W.cell? (ai.add t) = some (.int .i64 (nth (row rows i) t)) from
                  ⟨below_cell hb x3, below_cell hb hci, below_cell hb hcz⟩)
                have hmd : ((j : Int) + (st : Int)) % (mi : Int) = (t : Int) := by rw [← Int.natCast_add, ← Int.natCast_emod, ht]
                have hmd2 : Int.tmod ((j : Int) + (st : Int)) (mi : Int) = (t : Int) := by rw [Int.tmod_eq_emod_of_nonneg (by omega)]; exact hmd
                have hmi0 : ¬ mi = 0 := by omega
                have hwp : IntKind.i64.wrap ((j : Int) + (st : Int)) = (j : Int) + (st : Int) := IntWalk.i64_in _ (by omega)
                clear ht
                go_upto_region 16 with (fail)
                refine region_last (P := Tryz.prog) (S := fun w' => w'.cell? ⟨gc, 3, none⟩ = some (.slice (some ⟨b0, o0, s0⟩) r rc) ∧ w'.cell? ((⟨b0, o0, s0⟩ : Addr).add i) = some (.slice (some ai) mi ci) ∧ w'.cell? (ai.add t) = some (.int .i64 (nth (row rows i) t))) (by kernel_rfl) (by simp only [List.getLast?_cons_cons, List.getLast?_singleton]; rfl) (by dsimp only [List.dropLast]) (by kernel_rfl) ?_ ?_
                · have := HL.out _ (hwx.trans ((below_drewn wx 1).mono hwx.size))
                  rwa [← World.drew_is_drewN] at this
                intro hS
                refine wpAnyH_take (i := 0) (v := ?_) rfl (by kernel_rfl) (by kernel_rfl) (by kernel_rfl) (fun _ _ _ h => h) (Or.inl ⟨by rfl, ?_⟩) (by assumption) ?_
                rotate_left
                · (intro w hSw; (try dsimp only at hSw); go_simp; (try with_reducible rfl))
                simp only [Act.put, List.setIfInBounds_toArray, List.set_cons_zero, List.set_cons_succ]
                refine wpAnyH_take (i := 1) (v := ?_) rfl (by kernel_rfl) (by kernel_rfl) (by kernel_rfl) (fun _ _ _ h => h) (Or.inl ⟨by rfl, ?_⟩) (by assumption) ?_
                rotate_left
                · (intro w hSw; (try dsimp only at hSw); go_simp; (try with_reducible rfl))
                simp only [Act.put, List.setIfInBounds_toArray, List.set_cons_zero, List.set_cons_succ]
                refine wpAnyH_take (i := 2) (v := ?_) rfl (by kernel_rfl) (by kernel_rfl) (by kernel_rfl) (fun _ _ _ h => h) (Or.inl ⟨by rfl, ?_⟩) (by assumption) ?_
                rotate_left
                · (intro w hSw; (try dsimp only at hSw); go_simp; (try with_reducible rfl))
                simp only [Act.put, List.setIfInBounds_toArray, List.set_cons_zero, List.set_cons_succ]
                refine wpAnyH_take (i := 3) (v := ?_) rfl (by kernel_rfl) (by kernel_rfl) (by kernel_rfl) (fun _ _ _ h => h) (Or.inl ⟨by rfl, ?_⟩) (by assumption) ?_
                rotate_left
                · (intro w hSw; (try dsimp only at hSw); go_simp; (try with_reducible rfl))
                simp only [Act.put, List.setIfInBounds_toArray, List.set_cons_zero, List.set_cons_succ]
                refine wpAnyH_take (i := 4) (v := ?_) rfl (by kernel_rfl) (by kernel_rfl) (by kernel_rfl) (fun _ _ _ h => h) (Or.inl ⟨by rfl, ?_⟩) (by assumption) ?_
                rotate_left
                · (intro w hSw; (try dsimp only at hSw); go_simp; (try with_reducible rfl))
                simp only [Act.put, List.setIfInBounds_toArray, List.set_cons_zero, List.set_cons_succ]
                refine wpAnyH_take (i := 5) (v := ?_) rfl (by kernel_rfl) (by kernel_rfl) (by kernel_rfl) (fun _ _ _ h => h) (Or.inl ⟨by rfl, ?_⟩) (by assumption) ?_
                rotate_left
                · (intro w hSw; (try dsimp only at hSw); go_simp; (try with_reducible rfl))
                simp only [Act.put, List.setIfInBounds_toArray, List.set_cons_zero, List.set_cons_succ]
                refine wpAnyH_take (i := 6) (v := ?_) rfl (by kernel_rfl) (by kernel_rfl) (by kernel_rfl) (fun _ _ _ h => h) (Or.inl ⟨by rfl, ?_⟩) (by assumption) ?_
                rotate_left
                · (intro w hSw; (try dsimp only at hSw); go_simp; (try with_reducible rfl))
                simp only [Act.put, List.setIfInBounds_toArray, List.set_cons_zero, List.set_cons_succ]
                refine wpAnyH_take (i := 7) (v := ?_) rfl (by kernel_rfl) (by kernel_rfl) (by kernel_rfl) (fun _ _ _ h => h) (Or.inl ⟨by rfl, ?_⟩) (by assumption) ?_
                rotate_left
                · (intro w hSw; (try dsimp only at hSw); go_simp; (try with_reducible rfl))
                simp only [Act.put, List.setIfInBounds_toArray, List.set_cons_zero, List.set_cons_succ]
                refine wpAnyH_take (i := 8) (v := ?_) rfl (by kernel_rfl) (by kernel_rfl) (by kernel_rfl) (fun _ _ _ h => h) (Or.inl ⟨by rfl, ?_⟩) (by assumption) ?_
                rotate_left
                · (intro w hSw; (try dsimp only at hSw); go_simp; (try with_reducible rfl))
                simp only [Act.put, List.setIfInBounds_toArray, List.set_cons_zero, List.set_cons_succ]
                refine wpAnyH_take (i := 9) (v := ?_) rfl (by kernel_rfl) (by kernel_rfl) (by kernel_rfl) (fun _ _ _ h => h) (Or.inl ⟨by rfl, ?_⟩) (by assumption) ?_
                rotate_left
                · (intro w hSw; (try dsimp only at hSw); go_simp; (try with_reducible rfl))
                simp only [Act.put, List.setIfInBounds_toArray, List.set_cons_zero, List.set_cons_succ]
                refine wpAnyH_take (i := 10) (v := ?_) rfl (by kernel_rfl) (by kernel_rfl) (by kernel_rfl) (fun _ _ _ h => h) (Or.inl ⟨by rfl, ?_⟩) (by assumption) ?_
                rotate_left
                · (intro w hSw; (try dsimp only at hSw); go_simp; (try with_reducible rfl))
                simp only [Act.put, List.setIfInBounds_toArray, List.set_cons_zero, List.set_cons_succ]
                refine wpAnyH_take (i := 11) (v := ?_) rfl (by kernel_rfl) (by kernel_rfl) (by kernel_rfl) (fun _ _ _ h => h) (Or.inl ⟨by rfl, ?_⟩) (by assumption) ?_
                rotate_left
                · (intro w hSw; (try dsimp only at hSw); go_simp; (try with_reducible rfl))
                simp only [Act.put, List.setIfInBounds_toArray, List.set_cons_zero, List.set_cons_succ]
                refine wpAnyH_take (i := 12) (v := ?_) rfl (by kernel_rfl) (by kernel_rfl) (by kernel_rfl) (fun _ _ _ h => h) (Or.inl ⟨by rfl, ?_⟩) (by assumption) ?_
                rotate_left
                · (intro w hSw; (try dsimp only at hSw); go_simp; (try with_reducible rfl))
                simp only [Act.put, List.setIfInBounds_toArray, List.set_cons_zero, List.set_cons_succ]
                simp only [List.getElem_toArray, List.getElem_cons_succ, List.getElem_cons_zero]
                have hdr := below_drewn wx 1
                rw [← World.drew_is_drewN] at hdr
                have hq := hq.below hdr
                have hw5 := hwx.trans (hdr.mono hwx.size)
                generalize wx.drew = W at *
                have hzi64 : I64 (nth (row rows i) t) := by
                  have := (row_bv hAB.out (i := i) (by rw [hrl.out]; exact hlt)).2 t htl
                  unfold I64
                  omega
                clear hmd hmd2 hwp
                refine wpAnyH_ready (rs := [13]) (by kernel_rfl) (by simp) ?_
                refine AllReadyH.cons rfl (fun K hK => ?_) AllReadyH.nil
                go_simp
                refine hK.out _ _ (HL.out _ (hw5.trans ((below_alloc W _).mono hw5.size))) (fun hS1 => ?_)
                clear hK K hS
                refine wpAnyH_ready (rs := [14]) (by kernel_rfl) (by simp) ?_
                refine AllReadyH.cons rfl (fun K hK => ?_) AllReadyH.nil
                refine step_of_list (by rfl) ?_
                refine app_int W (by rfl) (.tmp 60) (.tmp 73) (by rfl) wo.heap.size Q j d _ (by rfl) hq (nth (row rows i) t) _ (by rfl) (by simp) hzi64 (by omega) hw5.size ?_
                intro A5 c5 w5 ho5 hg5 hf5
                refine list_onlyK ?_
                have hwx5 := below_own hw5 hg5 hw5.size (fun b hb => (hq.os.lt hb).1)
                refine hK.out _ _ (HL.out _ hwx5) (fun hS2 => ?_)
                clear hK K hS1
                refine wpAnyH_done (by kernel_rfl) ?_ _
                dsimp only [atEnd]
                rw [hst2.out] at ho5
                clear hq hg5 hf5 HL
                go_wp2
                go_roundw
                case rel => exact ⟨j + 1, A5, c5, by omega, by go_num, rfl, ho5, hwx5⟩
                case measure => simp [intOf]; omega
              · obtain rfl : j = mi := by omega
                rw [List.take_of_length_le (by rw [thenP_len]; simp [shP])] at hq
                have hrs := Lib.hid (sh_row (n := j) (st := st) (R := rows) (i := i) (by rw [hrl.out]; exact hlt))
                obtain ⟨vs, hov⟩ := ho
                have hap := Lib.hid (hov.apart_new (v := (Q, j, d)) (fun b hb => (hq.os.lt hb).1))
                have hov := hov.below hwx
                have hw5 := hwr.trans (hwx.mono hwr.size)
                have hq := hq.more hwr.size
                clear hci hzi x0 x1 x2 x3
                go_wp2_with (at_builtin; refine app_row _ rfl (.tmp 75) (.tmp 77) rfl w2.heap.size T i e vs _ rfl hov (Q, j, d) _ hq hap.out _ rfl (by simp) (by omega) hw5.size ?_; intro A6 c6 w6 ho6 hg6 hf6)
                have hw6 := below_own hw5 hg6 hw5.size (fun b hb => (hov.os.lt hb).1)
                rw [hrs.out] at ho6
                clear hq hg6 hf6 hov hap
                go_roundw
                case rel => exact ⟨i + 1, A6, c6, by omega, by go_num, rfl, ⟨_, ho6⟩, hw6⟩
                case measure => simp [intOf]; omega
          · obtain rfl : i = r := by omega
            rw [List.take_of_length_le (by rw [List.length_map, hrl.out]; exact Nat.le_refl _)] at ho
            obtain ⟨hCo, hlen, hcase⟩ := hPl.out
            have hri := hri.keep hwr
            have hpow : ((2 : Int) ^ 1) ^ (formR 2 1 f (rows.map (thenP (shP mz st)))).length ≤ 4096 := by
              have h1 := pow_mono (p := 2) (by decide) (show (formR 2 1 f (rows.map (thenP (shP mz st)))).length ≤ 3 by rw [hlen, hrl.out]; omega)
              have h2 : (2 : Int) ^ 3 = 8 := by decide
              rw [show ((2 : Int) ^ 1) = 2 from rfl]
              omega
            have hmk := makeCode_ok 2 1 A n c f T i e mz (rows.map (thenP (shP mz st))) wo hri hf (by omega) ho.reads (mat_two hmm.out) (by omega) (by omega) m1 (by omega) (by rw [hlen, hrl.out]; omega) (by rw [hlen, hrl.out]; omega) hpow
            have hw4 := hw3.trans (hwr.mono hw3.size)
            have HCase := Lib.hid hcase
            have HCo := Lib.hid hCo
            have HEq := fun (W : World) (A' : Option Addr) (n' c' : Nat) (M' : Option Addr) (r' rc' : Nat) (h1 : RI W A n f) (h2 : RR W (some ⟨b0, o0, s0⟩) i rows) (h3 : RI W A' n' f) (h4 : RR W M' r' (formR 2 1 f (rows.map (thenP (shP mz st))))) (hn' : n' ≤ 1099511627776) (hr' : r' ≤ 1099511627776) =>
              impl_EquivalentCodes 2 1 A n c f (some ⟨b0, o0, s0⟩) i rc rows 2 1 A' n' c' f M' r' rc' (formR 2 1 f (rows.map (thenP (shP mz st)))) 1500 W ⟨by omega, by omega⟩ ⟨by omega, by omega⟩ (by omega) h1 h2 (by omega) ⟨by omega, by omega⟩ ⟨by omega, by omega⟩ hn' h3 h4 hr'
            have HEq := Lib.hid HEq
            have HGr := Lib.hid (fun (W : World) (h1 : RI W A n f) (h2 : RR W (some ⟨b0, o0, s0⟩) i rows) => codeGraph_any 2 1 A n c f (some ⟨b0, o0, s0⟩) i rc rows W h1 h2 (by omega) hCo)
            have HCGo := Lib.hid hCG.out.2
            rw [hCG.out.1] at HGr
            have hlf := Lib.hid hf.len
            have HLen := Lib.hid hlen
            clear hpow hlen hcase hCo hPl hCG
            generalize formR 2 1 f (rows.map (thenP (shP mz st))) = ys' at *
            clear hmm Hid hf
            go_wp2_with fail
            refine hmk.mono ?_
            rintro e' w6 ⟨A', n', c', M', r', rc', rfl, hA', hM', hcap', hb6⟩
            have hba := below_alloc w6 (.cells #[.int .i64 2, .int .i64 1, .slice A' n' c', .slice M' r' rc'] 33)
            have Y := Blk.new w6 33 #[.int .i64 2, .int .i64 1, .slice A' n' c', .slice M' r' rc']
            have hbb := hb6.trans (hba.mono hb6.size)
            have X := X.after hbb
            have hri := hri.keep hbb
            have hrr := hrr.keep hbb
            have hA' := hA'.keep hba
            have hM' := hM'.keep hba
            have hw7 := hw4.trans (hbb.mono hw4.size)
            clear hmk hb6 hba hbb x0 x1 x2 x3 ho
            obtain ⟨x0, x1, x2, x3⟩ := X.cells4
            obtain ⟨y0, y1, y2, y3⟩ := Y.cells4
            go_wp2_with fail
            clear x0 x1 x2 x3 y0 y1 y2 y3
            generalize w6.alloc (.cells #[.int .i64 2, .int .i64 1, .slice A' n' c', .slice M' r' rc'] 33) = W7 at *
            generalize w6.heap.size = gd at *
            have hn' : n' ≤ 10 := by have := hA'.len; have := hlf.out; omega
            have hr' : r' ≤ 10 := by have := hM'.len; have := HLen.out; have := hrl.out; omega
            refine (HEq.out W7 A' n' c' M' r' rc' hri hrr hA' hM' (by omega) (by omega)).mono ?_
            rintro e' w8 ⟨rfl, hb8⟩
            have X := X.after hb8
            have hri := hri.keep hb8
            have hrr := hrr.keep hb8
            have hw8 := hw7.trans (hb8.mono hw7.size)
            clear hb8 Y hA' hM' HEq
            obtain ⟨x0, x1, x2, x3⟩ := X.cells4
            go_wp2_with fail
            clear x0 x1 x2 x3
            refine (HGr.out w8 hri hrr).mono ?_
            rintro e' w9 ⟨GA, gn, gc', GF, gm, gd', rfl, hga, hge, hgn, hgm, hb9⟩
            have hba := below_alloc w9 (.cells #[.slice GA gn gc', .slice GF gm gd'] 46)
            have Z := Blk.new w9 46 #[.slice GA gn gc', .slice GF gm gd']
            have hRG : RG (w9.alloc (.cells #[.slice GA gn gc', .slice GF gm gd'] 46)) GA gn GF gm (cgC 2 1 f rows) (cgE 2 1 f rows) := RG.keep ⟨hga.reads, hge.reads⟩ hba
            have hw10 := hw8.trans ((hb9.trans (hba.mono hb9.size)).mono hw8.size)
            have hvg := specValidGraph_any GA gn gc' GF gm gd' _ _ _ hRG (by omega) (by omega) HCGo.out
            obtain ⟨z0, z1⟩ := Z.cells2
            clear hb9 hba hga hge HGr X hri hrr
            rcases HCase.out with ⟨k0, k1⟩ | k0
            · rw [k0, k1]
              clear HCase k0 k1
              go_wp2_with fail
              refine hvg.mono ?_
              rintro e' w11 ⟨rfl, hb11⟩
              have hw11 := hw10.trans (hb11.mono hw10.size)
              go_wp2
              go_ret
              exact ⟨rfl, hw11⟩
            · rw [k0]
              generalize eqcR 2 1 f rows 2 1 f ys' 1500 = Rb at *
              clear HCase k0
              go_wp2_with fail
              refine hvg.mono ?_
              rintro e' w11 ⟨rfl, hb11⟩
              have hw11 := hw10.trans (hb11.mono hw10.size)
              go_wp2
              go_ret
              exact ⟨rfl, hw11⟩
      · have hn7' : (7 : Int) < mz := by omega
        go_wp2
        go_ret
        exact ⟨rfl, hw3⟩
    · have hr3' : (3 : Int) < r := by omega
      go_wp2
      go_ret
      exact ⟨rfl, hw3⟩
  · go_wp2
    go_ret
    exact ⟨rfl, hw3⟩
set_option maxRecDepth 100000 in
theorem law_Equivalent (A : Option Addr) (n c : Nat) (zs : List Int) (B : Option Addr) (m d : Nat) (ys : List Int) (w : World) (ha : RS EByte w A n zs) (hn : n ≤ c) (hc : c ≤ 9223372036854775807) (hb : RS EByte w B m ys) (hm : m ≤ d) (hd : d ≤ 9223372036854775807) :
    Calls Tryz.prog 4 #[.slice A n c, .slice B m d] w fun e w' => e = .returned (.bool true) ∧ Below w.heap.size w w' := by
  by_cases h1 : n ≤ 1048576
  · by_cases h2 : m ≤ 1048576
    · exact law_Equivalent_ok A n c zs B m d ys w ha h1 hb h2
    · go_enter Tryz.func4, Tryz.ntmps4
      go_wp2_with fail
      refine (v8Long_two A n c B m d _ h1 (by omega)).mono ?_
      rintro e w' ⟨rfl, rfl⟩
      go_wp2
      go_ret
      exact ⟨rfl, Below.refl _ _⟩
  · go_enter Tryz.func4, Tryz.ntmps4
    go_wp2_with fail
    refine (v8Long_one A n c B m d _ (by omega)).mono ?_
    rintro e w' ⟨rfl, rfl⟩
    go_wp2
    go_ret
    exact ⟨rfl, Below.refl _ _⟩
end Go.Proofs.YtdkbcjdimhgmnaaGreat
