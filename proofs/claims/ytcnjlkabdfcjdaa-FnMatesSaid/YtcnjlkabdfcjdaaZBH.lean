/- The search for a mate: its state in memory; a cell taken or given back. No condition beyond those stated. -/
import Derived.Test.YtcnjlkabdfcjdaaZBD
import Derived.Test.YtcnjlkabdfcjdaaZBE
import Derived.Test.YtcnjlkabdfcjdaaZAI
import Derived.Test.YtcnjlkabdfcjdaaZBB
import Derived.Test.YtcnjlkabdfcjdaaZAW
import Derived.Deep.DeepCutAuto
set_option linter.unusedVariables false
set_option linter.unusedSimpArgs false
namespace Go.Proofs.Ytcnjlkabdfcjdaa
open Go.RowKit

theorem Blk.apartM {w : World} {g : Nat} {T : TypeId} {cs : Array Value} {B : Nat} {e : TypeId} {size : Nat} {A : Option Addr} {n c : Nat} {xs : List Value} (h : Blk w g T cs) (ho : OS w B e size A n c xs) (hne : T ≠ e) : some g ≠ blk A := by
  rcases ho.cases with ⟨rfl, _⟩ | ⟨g', cur, rfl, _, hg, _⟩
  · simp [blk]
  · intro e'
    have : g = g' := by simpa [blk] using e'
    subst this
    rw [show w.heap[g]? = _ from h] at hg
    injection hg with hg
    injection hg with _ ht
    exact hne ht
/-- the search for a mate in memory -/
structure IMt (w0 w : World) (g n : Nat) (SA : Option Addr) (sc : Nat) (a : List (List Int)) (MA : Option Addr) (mc : Nat) (vm : List Sl) (P : List (List Int)) (CA : Option Addr) (cc : Nat) (vc : List Sl) (fc : Nat → Nat → Bool) (YA : Option Addr) (yc : Nat) (vy : List Sl) (fy : Nat → Nat → Bool) (left : Nat) (spent : Bool) : Prop where
  x : Blk w g 84 #[.int .i64 (left : Int), .bool spent, .slice SA n sc, .slice MA n mc, .slice CA n cc, .slice YA n yc]
  b : Below w0.heap.size w0 w
  o0 : RR w0 SA n a
  m : ORv w w0.heap.size 30 2 MA n mc vm P
  c : TBv w w0.heap.size 57 4 CA n cc vc n fc
  y : TBv w w0.heap.size 57 4 YA n yc vy n fy
  sep : ∀ (i j : Nat) (v u : Sl), vc[i]? = some v → vy[j]? = some u → apart v u
  gB : w0.heap.size ≤ g
section
variable {w0 w w' : World} {g n : Nat} {SA : Option Addr} {sc : Nat} {a : List (List Int)} {MA : Option Addr} {mc : Nat} {vm : List Sl} {P : List (List Int)} {CA : Option Addr} {cc : Nat} {vc : List Sl} {fc fc' : Nat → Nat → Bool} {YA : Option Addr} {yc : Nat} {vy : List Sl} {fy fy' : Nat → Nat → Bool} {left : Nat} {spent : Bool}
theorem IMt.cells (h : IMt w0 w g n SA sc a MA mc vm P CA cc vc fc YA yc vy fy left spent) :
    (w.cell? ⟨g, 0, none⟩ = some (.int .i64 (left : Int)) ∧ w.cell? ⟨g, 1, none⟩ = some (.bool spent) ∧ w.cell? ⟨g, 2, none⟩ = some (.slice SA n sc)) ∧ w.cell? ⟨g, 3, none⟩ = some (.slice MA n mc) ∧ w.cell? ⟨g, 4, none⟩ = some (.slice CA n cc) ∧ w.cell? ⟨g, 5, none⟩ = some (.slice YA n yc) :=
  ⟨⟨h.x.cell 0, h.x.cell 1, h.x.cell 2⟩, h.x.cell 3, h.x.cell 4, h.x.cell 5⟩
theorem IMt.below (h : IMt w0 w g n SA sc a MA mc vm P CA cc vc fc YA yc vy fy left spent) (hb : Below w.heap.size w w') : IMt w0 w' g n SA sc a MA mc vm P CA cc vc fc YA yc vy fy left spent :=
  ⟨h.x.after hb, h.b.trans (hb.mono h.b.size), h.o0, h.m.below hb, h.c.below hb, h.y.below hb, h.sep, h.gB⟩
/-- a cell of the struct is stored -/
theorem IMt.put (h : IMt w0 w g n SA sc a MA mc vm P CA cc vc fc YA yc vy fy left spent) (i : Nat) (u : Value) :
    (∀ v, Blk w g 84 v → Blk (w.setCell ⟨g, i, none⟩ u) g 84 (v.setIfInBounds i u)) ∧ Below w0.heap.size w0 (w.setCell ⟨g, i, none⟩ u) ∧ ORv (w.setCell ⟨g, i, none⟩ u) w0.heap.size 30 2 MA n mc vm P ∧ TBv (w.setCell ⟨g, i, none⟩ u) w0.heap.size 57 4 CA n cc vc n fc ∧ TBv (w.setCell ⟨g, i, none⟩ u) w0.heap.size 57 4 YA n yc vy n fy := by
  have hg : w.grownBy (w.setCell ⟨g, i, none⟩ u) (some g) := grown_set
  refine ⟨fun v hv => hv.set_ i u, h.b.setCell h.gB _, ?_, ?_, ?_⟩
  · refine h.m.kept hg (.inr fun e => h.x.apartM h.m.os (by decide) e.symm) fun j v hv => .inr fun e => ?_
    have hj : j < P.length := by rw [← h.m.len]; exact (List.getElem?_eq_some_iff.1 hv).1
    exact h.x.apartM (h.m.rows j v _ hv (List.getElem?_eq_getElem hj)).os (by decide) e.symm
  · exact h.c.kept hg (.inr fun e => h.x.apartM h.c.os (by decide) e.symm) fun j v hv => .inr fun e => h.x.apartM (h.c.rows j v hv).2 (by decide) e.symm
  · exact h.y.kept hg (.inr fun e => h.x.apartM h.y.os (by decide) e.symm) fun j v hv => .inr fun e => h.x.apartM (h.y.rows j v hv).2 (by decide) e.symm
theorem IMt.left_ (h : IMt w0 w g n SA sc a MA mc vm P CA cc vc fc YA yc vy fy left spent) (u : Nat) : IMt w0 (w.setCell ⟨g, 0, none⟩ (.int .i64 (u : Int))) g n SA sc a MA mc vm P CA cc vc fc YA yc vy fy u spent := by
  obtain ⟨h1, h2, h3, h4, h5⟩ := h.put 0 (.int .i64 (u : Int))
  exact ⟨h1 _ h.x, h2, h.o0, h3, h4, h5, h.sep, h.gB⟩
theorem IMt.spent_ (h : IMt w0 w g n SA sc a MA mc vm P CA cc vc fc YA yc vy fy left spent) (u : Bool) : IMt w0 (w.setCell ⟨g, 1, none⟩ (.bool u)) g n SA sc a MA mc vm P CA cc vc fc YA yc vy fy left u := by
  obtain ⟨h1, h2, h3, h4, h5⟩ := h.put 1 (.bool u)
  exact ⟨h1 _ h.x, h2, h.o0, h3, h4, h5, h.sep, h.gB⟩
def upd (f : Nat → Nat → Bool) (k y : Nat) (b : Bool) : Nat → Nat → Bool := fun t d => if t = k ∧ d = y then b else f t d
/-- a flag of a column is stored -/
theorem IMt.col (h : IMt w0 w g n SA sc a MA mc vm P CA cc vc fc YA yc vy fy left spent) {k j : Nat} {v : Sl} {r : Nat} (hv : vc[k]? = some v) (hr : v.1 = some ⟨r, 0, none⟩) (b : Bool) :
    IMt w0 (w.setCell ⟨r, j, none⟩ (.bool b)) g n SA sc a MA mc vm P CA cc vc (upd fc k j b) YA yc vy fy left spent := by
  have ho := (h.c.rows k v hv).2
  have hvb : blk v.1 = some r := by rw [hr]; rfl
  have hg : w.grownBy (w.setCell ⟨r, j, none⟩ (.bool b)) (blk v.1) := by rw [hvb]; exact grown_set
  have hlt := ho.lt hvb
  refine ⟨h.x.far (p := ⟨r, j, none⟩) (fun e => ?_) _, h.b.setCell (p := ⟨r, j, none⟩) hlt.1 _, h.o0, ?_, h.c.set hv hr j b, ?_, h.sep, h.gB⟩
  · refine h.x.apartM ho (by decide) ?_
    rw [hvb]
    exact congrArg some e
  · exact h.m.kept hg (OS.typed h.m.os ho (by decide)) fun i u hu => OS.typed (h.m.rows i u _ hu (List.getElem?_eq_getElem (by rw [← h.m.len]; exact (List.getElem?_eq_some_iff.1 hu).1))).os ho (by decide)
  · exact h.y.kept hg (OS.typed h.y.os ho (by decide)) fun i u hu => (h.sep k i v u hv hu).symm
/-- a flag of a symbol is stored -/
theorem IMt.sym (h : IMt w0 w g n SA sc a MA mc vm P CA cc vc fc YA yc vy fy left spent) {k j : Nat} {v : Sl} {r : Nat} (hv : vy[k]? = some v) (hr : v.1 = some ⟨r, 0, none⟩) (b : Bool) :
    IMt w0 (w.setCell ⟨r, j, none⟩ (.bool b)) g n SA sc a MA mc vm P CA cc vc fc YA yc vy (upd fy k j b) left spent := by
  have ho := (h.y.rows k v hv).2
  have hvb : blk v.1 = some r := by rw [hr]; rfl
  have hg : w.grownBy (w.setCell ⟨r, j, none⟩ (.bool b)) (blk v.1) := by rw [hvb]; exact grown_set
  have hlt := ho.lt hvb
  refine ⟨h.x.far (p := ⟨r, j, none⟩) (fun e => ?_) _, h.b.setCell (p := ⟨r, j, none⟩) hlt.1 _, h.o0, ?_, ?_, h.y.set hv hr j b, h.sep, h.gB⟩
  · refine h.x.apartM ho (by decide) ?_
    rw [hvb]
    exact congrArg some e
  · exact h.m.kept hg (OS.typed h.m.os ho (by decide)) fun i u hu => OS.typed (h.m.rows i u _ hu (List.getElem?_eq_getElem (by rw [← h.m.len]; exact (List.getElem?_eq_some_iff.1 hu).1))).os ho (by decide)
  · exact h.c.kept hg (OS.typed h.c.os ho (by decide)) fun i u hu => h.sep i k u v hu hv
/-- a place of the mate -/
theorem IMt.mate (h : IMt w0 w g n SA sc a MA mc vm P CA cc vc fc YA yc vy fy left spent) {x y : Nat} (hx : x < n) (hy : y < (row P x).length) :
    ∃ gs r rm rk, At2 w w0.heap.size 30 2 MA n mc vm P x y gs r rm rk ∧ ∀ u, I64 u → IMt w0 (w.setCell ⟨r, y, none⟩ (.int .i64 u)) g n SA sc a MA mc vm (putS P x y u) CA cc vc fc YA yc vy fy left spent := by
  obtain ⟨gs, r, rm, rk, hat⟩ := h.m.at2 hx hy
  obtain ⟨g', v, ha, hv, co, fo, hr⟩ := h.m.get hx
  have e2 := hat.co
  have e := hat.ha
  rw [ha] at e
  injection e with e
  injection e with e
  subst e
  rw [co] at e2
  injection e2 with e2
  injection e2 with e2 _ _
  have ho := hr.os
  have hvb : blk v.1 = some r := by rw [e2]; rfl
  refine ⟨g', r, rm, rk, hat, fun u hu => ?_⟩
  have hg : w.grownBy (w.setCell ⟨r, y, none⟩ (.int .i64 u)) (blk v.1) := by rw [hvb]; exact grown_set
  refine ⟨h.x.far (p := ⟨r, y, none⟩) (fun e => ?_) _, h.b.setCell (p := ⟨r, y, none⟩) hat.br _, h.o0, hat.set u hu, ?_, ?_, h.sep, h.gB⟩
  · refine h.x.apartM ho (by decide) ?_
    rw [hvb]
    exact congrArg some e
  · exact h.c.kept hg (OS.typed h.c.os ho (by decide)) fun i q hq => OS.typed (h.c.rows i q hq).2 ho (by decide)
  · exact h.y.kept hg (OS.typed h.y.os ho (by decide)) fun i q hq => OS.typed (h.y.rows i q hq).2 ho (by decide)
end
end Go.Proofs.Ytcnjlkabdfcjdaa
/- The search for a mate: a cell taken or given back. No condition beyond those stated. -/
namespace Go.Proofs.Ytcnjlkabdfcjdaa
open Go.RowKit

theorem putS_twice {p : List (List Int)} {x y : Nat} {z u : Int} (hx : x < p.length) : putS (putS p x y z) x y u = putS p x y u := by
  have e : row (putS p x y z) x = (row p x).set y z := by rw [row_putS hx, if_pos rfl]
  rw [putS, e]
  unfold putS
  rw [List.set_set, List.set_set]
set_option maxRecDepth 100000 in
set_option maxHeartbeats 4000000 in
theorem take_any (w0 w : World) (g n : Nat) (SA : Option Addr) (sc : Nat) (a : List (List Int)) (MA : Option Addr) (mc : Nat) (vm : List Sl) (P : List (List Int)) (CA : Option Addr) (cc : Nat) (vc : List Sl) (fc : Nat → Nat → Bool) (YA : Option Addr) (yc : Nat) (vy : List Sl) (fy : Nat → Nat → Bool) (left : Nat) (spent : Bool)
    (h : IMt w0 w g n SA sc a MA mc vm P CA cc vc fc YA yc vy fy left spent) (hn : n ≤ 1000) (k x y s : Nat) (hk : k < n) (hx : x < n) (hy : y < n) (hs : nth (row a x) y = (s : Int)) (hsn : s < n) (hra : (row a x).length = n) (hrp : (row P x).length = n) (b : Bool) :
    Calls Try.prog 60 #[.pointer (some ⟨g, 0, none⟩), .int .i64 k, .int .i64 x, .int .i64 y, .bool b] w fun e w' => e = .returned (.tuple #[]) ∧ IMt w0 w' g n SA sc a MA mc vm (putS P x y (if b then (k : Int) else -1)) CA cc vc (upd fc k y b) YA yc vy (upd fy k s b) left spent := by
  have hPl : x < P.length := by rw [h.m.slen]; exact hx
  have hdr : Below w.heap.size w w.drew := by have := below_drewn w 1; rwa [← World.drew_is_drewN] at this
  have h0 := h.below hdr
  have z0 := h.cells
  clear h hdr
  have hW : ∃ W, w.drew = W := ⟨_, rfl⟩
  obtain ⟨W, hW⟩ := hW
  rw [hW] at h0
  obtain ⟨⟨x0, x1, x2⟩, x3, x4, x5⟩ := h0.cells
  obtain ⟨gc, vk, rfl, hvk, ck, ck1, ck2, hck⟩ := h0.c.get hk
  obtain ⟨rk, hrk, crk, frk, -, -⟩ := hck y hy
  obtain ⟨gy, uk, rfl, huk, cu, cu1, cu2, hcu⟩ := h0.y.get hk
  obtain ⟨ru, hru, cru, fru, -, -⟩ := hcu s hsn
  obtain ⟨vkA, vkn, vkc⟩ := vk
  obtain ⟨ukA, ukn, ukc⟩ := uk
  simp only [] at hrk hru ck ck1 ck2 cu cu1 cu2
  subst hrk hru
  obtain ⟨ad, RX, rn, rc, rfl, hcx0, hrn, hrc, hRX⟩ := h0.o0.get hx
  obtain rfl : rn = n := by rw [← hRX.len]; exact hra
  obtain ⟨ax, rfl, hcz0, -⟩ := hRX.get hy
  rw [hs] at hcz0
  have hcx := below_cell h0.b hcx0
  have hcz := below_cell h0.b hcz0
  -- the rows' blocks lie apart from all that is read
  have hlk := (h0.c.rows k _ hvk).2.lt (k := rk) rfl
  have k1 : rk ≠ g := fun e => h0.x.apartM (h0.c.rows k _ hvk).2 (by decide) (by rw [e]; rfl)
  have k2 : rk ≠ gc := fun e => (h0.c.outer_row hvk).elim (fun e2 => by cases e2) (fun e2 => e2 (by rw [e]))
  have k3 : rk ≠ gy := fun e => (OS.typed (h0.c.rows k _ hvk).2 h0.y.os (by decide)).elim (fun e2 => by cases e2) (fun e2 => e2 (by rw [e]))
  have k4 : rk ≠ (ad.add x).block := fun e => by have := block_lt hcx0; omega
  have k5 : rk ≠ (ax.add y).block := fun e => by have := block_lt hcz0; omega
  have k6 : rk ≠ ru := fun e => (h0.sep k k _ _ hvk huk).elim (fun e2 => by cases e2) (fun e2 => e2 (by rw [e]))
  have hS0 : (W.cell? ⟨g, 4, none⟩ = some (.slice (some ⟨gc, 0, none⟩) rn cc) ∧ W.cell? ⟨gc, k, none⟩ = some (.slice (some ⟨rk, 0, none⟩) rn vkc)) ∧ (W.cell? ⟨g, 5, none⟩ = some (.slice (some ⟨gy, 0, none⟩) rn yc) ∧ W.cell? ⟨gy, k, none⟩ = some (.slice (some ⟨ru, 0, none⟩) rn ukc)) ∧ W.cell? ⟨g, 2, none⟩ = some (.slice (some ad) rn sc) ∧ W.cell? (ad.add x) = some (.slice (some ax) rn rc) ∧ W.cell? (ax.add y) = some (.int .i64 (s : Int)) :=
    ⟨⟨x4, ck⟩, ⟨x5, cu⟩, x2, hcx, hcz⟩
  have hS1 : ∀ u : Value, (((W.setCell ⟨rk, y, none⟩ u).cell? ⟨g, 4, none⟩ = some (.slice (some ⟨gc, 0, none⟩) rn cc) ∧ (W.setCell ⟨rk, y, none⟩ u).cell? ⟨gc, k, none⟩ = some (.slice (some ⟨rk, 0, none⟩) rn vkc)) ∧ ((W.setCell ⟨rk, y, none⟩ u).cell? ⟨g, 5, none⟩ = some (.slice (some ⟨gy, 0, none⟩) rn yc) ∧ (W.setCell ⟨rk, y, none⟩ u).cell? ⟨gy, k, none⟩ = some (.slice (some ⟨ru, 0, none⟩) rn ukc)) ∧ (W.setCell ⟨rk, y, none⟩ u).cell? ⟨g, 2, none⟩ = some (.slice (some ad) rn sc) ∧ (W.setCell ⟨rk, y, none⟩ u).cell? (ad.add x) = some (.slice (some ax) rn rc) ∧ (W.setCell ⟨rk, y, none⟩ u).cell? (ax.add y) = some (.int .i64 (s : Int))) := fun u => by
    refine ⟨⟨?_, ?_⟩, ⟨?_, ?_⟩, ?_, ?_, ?_⟩
    · rw [World.cell?_setCell_far _ _ _ _ (by exact k1)]; exact x4
    · rw [World.cell?_setCell_far _ _ _ _ (by exact k2)]; exact ck
    · rw [World.cell?_setCell_far _ _ _ _ (by exact k1)]; exact x5
    · rw [World.cell?_setCell_far _ _ _ _ (by exact k3)]; exact cu
    · rw [World.cell?_setCell_far _ _ _ _ (by exact k1)]; exact x2
    · rw [World.cell?_setCell_far _ _ _ _ (by exact k4)]; exact hcx
    · rw [World.cell?_setCell_far _ _ _ _ (by exact k5)]; exact hcz
  have hlu := (h0.y.rows k _ huk).2.lt (k := ru) rfl
  have j1 : ru ≠ g := fun e => h0.x.apartM (h0.y.rows k _ huk).2 (by decide) (by rw [e]; rfl)
  have j2 : ru ≠ gc := fun e => (OS.typed (h0.y.rows k _ huk).2 h0.c.os (by decide)).elim (fun e2 => by cases e2) (fun e2 => e2 (by rw [e]))
  have j3 : ru ≠ gy := fun e => (h0.y.outer_row huk).elim (fun e2 => by cases e2) (fun e2 => e2 (by rw [e]))
  have j4 : ru ≠ (ad.add x).block := fun e => by have := block_lt hcx0; omega
  have j5 : ru ≠ (ax.add y).block := fun e => by have := block_lt hcz0; omega
  have hS3 : ∀ u : Value, ((((W.setCell ⟨rk, y, none⟩ (.bool b)).setCell ⟨ru, s, none⟩ u).cell? ⟨g, 4, none⟩ = some (.slice (some ⟨gc, 0, none⟩) rn cc) ∧ ((W.setCell ⟨rk, y, none⟩ (.bool b)).setCell ⟨ru, s, none⟩ u).cell? ⟨gc, k, none⟩ = some (.slice (some ⟨rk, 0, none⟩) rn vkc)) ∧ (((W.setCell ⟨rk, y, none⟩ (.bool b)).setCell ⟨ru, s, none⟩ u).cell? ⟨g, 5, none⟩ = some (.slice (some ⟨gy, 0, none⟩) rn yc) ∧ ((W.setCell ⟨rk, y, none⟩ (.bool b)).setCell ⟨ru, s, none⟩ u).cell? ⟨gy, k, none⟩ = some (.slice (some ⟨ru, 0, none⟩) rn ukc)) ∧ ((W.setCell ⟨rk, y, none⟩ (.bool b)).setCell ⟨ru, s, none⟩ u).cell? ⟨g, 2, none⟩ = some (.slice (some ad) rn sc) ∧ ((W.setCell ⟨rk, y, none⟩ (.bool b)).setCell ⟨ru, s, none⟩ u).cell? (ad.add x) = some (.slice (some ax) rn rc) ∧ ((W.setCell ⟨rk, y, none⟩ (.bool b)).setCell ⟨ru, s, none⟩ u).cell? (ax.add y) = some (.int .i64 (s : Int))) := fun u => by
    obtain ⟨⟨s1, s2⟩, ⟨s3, s4⟩, s5, s6, s7⟩ := hS1 (.bool b)
    refine ⟨⟨?_, ?_⟩, ⟨?_, ?_⟩, ?_, ?_, ?_⟩
    · rw [World.cell?_setCell_far _ _ _ _ (by exact j1)]; exact s1
    · rw [World.cell?_setCell_far _ _ _ _ (by exact j2)]; exact s2
    · rw [World.cell?_setCell_far _ _ _ _ (by exact j1)]; exact s3
    · rw [World.cell?_setCell_far _ _ _ _ (by exact j3)]; exact s4
    · rw [World.cell?_setCell_far _ _ _ _ (by exact j1)]; exact s5
    · rw [World.cell?_setCell_far _ _ _ _ (by exact j4)]; exact s6
    · rw [World.cell?_setCell_far _ _ _ _ (by exact j5)]; exact s7
  have h1 := h0.col (j := y) hvk rfl b
  have h2 := h1.sym (j := s) huk rfl b
  obtain ⟨gs, r, rm, rk2, ⟨hgs, co, fo, hm, mle, l1, ci, fi, br, rl, iz, -⟩, hset⟩ := h2.mate hx (y := y) (by rw [hrp]; exact hy)
  have h3 := hset (-1) (by unfold I64; omega)
  have hm2 : y < rm := by rw [← hm, hrp]; exact hy
  have h4 := (hset (-1) (by unfold I64; omega)).mate hx (y := y) (by rw [row_putS hPl, if_pos rfl, List.length_set, hrp]; exact hy)
  obtain ⟨gs4, r4, rm4, rk4, ⟨hgs4, co4, fo4, hm4, mle4, l14, ci4, fi4, br4, rl4, iz4, -⟩, hset4⟩ := h4
  have hm5 : y < rm4 := by rw [← hm4, row_putS hPl, if_pos rfl, List.length_set, hrp]; exact hy
  have h5 := hset4 (k : Int) (by unfold I64; omega)
  rw [putS_twice hPl] at h5
  subst hgs
  injection hgs4 with hgs4
  injection hgs4 with hgs4
  subst hgs4
  have y3 : ((W.setCell ⟨rk, y, none⟩ (.bool b)).setCell ⟨ru, s, none⟩ (.bool b)).cell? ⟨g, 3, none⟩ = some (.slice (some ⟨gs, 0, none⟩) rn mc) := h2.x.cell 3
  have y4 := h3.x.cell 3
  have frk1 : (W.setCell ⟨rk, y, none⟩ (.bool b)).frozen? ⟨ru, s, none⟩ = false := by
    obtain ⟨gy', u', hgy', hu', -, -, -, hc'⟩ := h1.y.get hk
    rw [huk] at hu'
    injection hu' with hu'
    subst hu'
    obtain ⟨r', hr', -, hf', -, -⟩ := hc' s hsn
    injection hr' with hr'
    injection hr' with hr'
    subst hr'
    exact hf'
  have cru1 : (W.setCell ⟨rk, y, none⟩ (.bool b)).cell? ⟨ru, s, none⟩ = some (.bool (fy k s)) := by
    rw [World.cell?_setCell_far _ _ _ _ (by exact k6)]; exact cru
  have H3 := Lib.hid h3
  have H5 := Lib.hid h5
  clear h0 h1 h2 h3 h5 hset hset4 z0 hrp hra
  go_enter Try.func60, Try.ntmps60
  go_wp2
  refine wp_region_held_drew (S := fun w' => (w'.cell? ⟨g, 4, none⟩ = some (.slice (some ⟨gc, 0, none⟩) rn cc) ∧ w'.cell? ⟨gc, k, none⟩ = some (.slice (some ⟨rk, 0, none⟩) rn vkc)) ∧ (w'.cell? ⟨g, 5, none⟩ = some (.slice (some ⟨gy, 0, none⟩) rn yc) ∧ w'.cell? ⟨gy, k, none⟩ = some (.slice (some ⟨ru, 0, none⟩) rn ukc)) ∧ w'.cell? ⟨g, 2, none⟩ = some (.slice (some ad) rn sc) ∧ w'.cell? (ad.add x) = some (.slice (some ax) rn rc) ∧ w'.cell? (ax.add y) = some (.int .i64 (s : Int))) (by kernel_rfl) (by rw [hW]; exact hS0) ?_
  intro hS
  rw [hW]
  rw [hW] at hS
  refine wpAnyH_take (i := 0) (v := ?_) rfl (by kernel_rfl) (by kernel_rfl) (by kernel_rfl) (fun _ _ _ h => h) (Or.inl ⟨by rfl, ?_⟩) (by assumption) ?_
  rotate_left
  · (intro w hSw; (try dsimp only at hSw); go_simp; (try with_reducible rfl))
  simp only [Act.put, List.setIfInBounds_toArray, List.set_cons_zero, List.set_cons_succ]
  refine wpAnyH_take (i := 1) (v := ?_) rfl (by kernel_rfl) (by kernel_rfl) (by kernel_rfl) (fun _ _ _ h => h) (Or.inl ⟨by rfl, ?_⟩) (by assumption) ?_
  rotate_left
  · (intro w hSw; (try dsimp only at hSw); go_simp; (try with_reducible rfl))
  simp only [Act.put, List.setIfInBounds_toArray, List.set_cons_zero, List.set_cons_succ]
  refine wpAnyH_take (i := 2) (v := ?_) rfl (by kernel_rfl) (by kernel_rfl) (by kernel_rfl) (fun _ _ _ h => h) (Or.inl ⟨by rfl, ?_⟩) (by assumption) ?_
  rotate_left
  · (intro w hSw; (try dsimp only at hSw); go_simp; (try with_reducible rfl))
  simp only [Act.put, List.setIfInBounds_toArray, List.set_cons_zero, List.set_cons_succ]
  refine wpAnyH_take (i := 3) (v := ?_) rfl (by kernel_rfl) (by kernel_rfl) (by kernel_rfl) (fun _ _ _ h => h) (Or.inl ⟨by rfl, ?_⟩) (by assumption) ?_
  rotate_left
  · (intro w hSw; (try dsimp only at hSw); go_simp; (try with_reducible rfl))
  simp only [Act.put, List.setIfInBounds_toArray, List.set_cons_zero, List.set_cons_succ]
  refine wpAnyH_take (i := 4) (v := ?_) rfl (by kernel_rfl) (by kernel_rfl) (by kernel_rfl) (fun _ _ _ h => h) (Or.inl ⟨by rfl, ?_⟩) (by assumption) ?_
  rotate_left
  · (intro w hSw; (try dsimp only at hSw); go_simp; (try with_reducible rfl))
  simp only [Act.put, List.setIfInBounds_toArray, List.set_cons_zero, List.set_cons_succ]
  refine wpAnyH_take (i := 5) (v := ?_) rfl (by kernel_rfl) (by kernel_rfl) (by kernel_rfl) (fun _ _ _ h => h) (Or.inl ⟨by rfl, ?_⟩) (by assumption) ?_
  rotate_left
  · (intro w hSw; (try dsimp only at hSw); go_simp; (try with_reducible rfl))
  simp only [Act.put, List.setIfInBounds_toArray, List.set_cons_zero, List.set_cons_succ]
  refine wpAnyH_take (i := 6) (v := ?_) rfl (by kernel_rfl) (by kernel_rfl) (by kernel_rfl) (fun _ _ _ h => h) (Or.inl ⟨by rfl, ?_⟩) (by assumption) ?_
  rotate_left
  · (intro w hSw; (try dsimp only at hSw); go_simp; (try with_reducible rfl))
  simp only [Act.put, List.setIfInBounds_toArray, List.set_cons_zero, List.set_cons_succ]
  refine wpAnyH_take (i := 7) (v := ?_) rfl (by kernel_rfl) (by kernel_rfl) (by kernel_rfl) (fun _ _ _ h => h) (Or.inl ⟨by rfl, ?_⟩) (by assumption) ?_
  rotate_left
  · (intro w hSw; (try dsimp only at hSw); go_simp; (try with_reducible rfl))
  simp only [Act.put, List.setIfInBounds_toArray, List.set_cons_zero, List.set_cons_succ]
  refine wpAnyH_take (i := 8) (v := ?_) rfl (by kernel_rfl) (by kernel_rfl) (by kernel_rfl) (fun _ _ _ h => h) (Or.inl ⟨by rfl, ?_⟩) (by assumption) ?_
  rotate_left
  · (intro w hSw; (try dsimp only at hSw); go_simp; (try with_reducible rfl))
  simp only [Act.put, List.setIfInBounds_toArray, List.set_cons_zero, List.set_cons_succ]
  refine wpAnyH_take (i := 9) (v := ?_) rfl (by kernel_rfl) (by kernel_rfl) (by kernel_rfl) (fun _ _ _ h => h) (Or.inl ⟨by rfl, ?_⟩) (by assumption) ?_
  rotate_left
  · (intro w hSw; (try dsimp only at hSw); go_simp; (try with_reducible rfl))
  simp only [Act.put, List.setIfInBounds_toArray, List.set_cons_zero, List.set_cons_succ]
  refine wpAnyH_take (i := 10) (v := ?_) rfl (by kernel_rfl) (by kernel_rfl) (by kernel_rfl) (fun _ _ _ h => h) (Or.inl ⟨by rfl, ?_⟩) (by assumption) ?_
  rotate_left
  · (intro w hSw; (try dsimp only at hSw); go_simp; (try with_reducible rfl))
  simp only [Act.put, List.setIfInBounds_toArray, List.set_cons_zero, List.set_cons_succ]
  refine wpAnyH_take (i := 11) (v := ?_) rfl (by kernel_rfl) (by kernel_rfl) (by kernel_rfl) (fun _ _ _ h => h) (Or.inl ⟨by rfl, ?_⟩) (by assumption) ?_
  rotate_left
  · (intro w hSw; (try dsimp only at hSw); go_simp; (try with_reducible rfl))
  simp only [Act.put, List.setIfInBounds_toArray, List.set_cons_zero, List.set_cons_succ]
  refine wpAnyH_take (i := 12) (v := ?_) rfl (by kernel_rfl) (by kernel_rfl) (by kernel_rfl) (fun _ _ _ h => h) (Or.inl ⟨by rfl, ?_⟩) (by assumption) ?_
  rotate_left
  · (intro w hSw; (try dsimp only at hSw); go_simp; (try with_reducible rfl))
  simp only [Act.put, List.setIfInBounds_toArray, List.set_cons_zero, List.set_cons_succ]
  simp only [List.getElem_toArray, List.getElem_cons_succ, List.getElem_cons_zero, Act.put, List.setIfInBounds_toArray, List.set_cons_zero, List.set_cons_succ]
  refine wpAnyH_take (i := 13) (v := ?_) rfl (by kernel_rfl) (by kernel_rfl) (by kernel_rfl) (fun _ _ _ h => h) (Or.inl ⟨by rfl, ?_⟩) (by assumption) ?_
  rotate_left
  · (intro w hSw; (try dsimp only at hSw); go_simp; (try with_reducible rfl))
  simp only [Act.put, List.setIfInBounds_toArray, List.set_cons_zero, List.set_cons_succ]
  refine wpAnyH_take (i := 14) (v := ?_) rfl (by kernel_rfl) (by kernel_rfl) (by kernel_rfl) (fun _ _ _ h => h) (Or.inl ⟨by rfl, ?_⟩) (by assumption) ?_
  rotate_left
  · (intro w hSw; (try dsimp only at hSw); go_simp; (try with_reducible rfl))
  simp only [Act.put, List.setIfInBounds_toArray, List.set_cons_zero, List.set_cons_succ]
  refine wpAnyH_take (i := 15) (v := ?_) rfl (by kernel_rfl) (by kernel_rfl) (by kernel_rfl) (fun _ _ _ h => h) (Or.inl ⟨by rfl, ?_⟩) (by assumption) ?_
  rotate_left
  · (intro w hSw; (try dsimp only at hSw); go_simp; (try with_reducible rfl))
  simp only [Act.put, List.setIfInBounds_toArray, List.set_cons_zero, List.set_cons_succ]
  refine wpAnyH_take (i := 16) (v := ?_) rfl (by kernel_rfl) (by kernel_rfl) (by kernel_rfl) (fun _ _ _ h => h) (Or.inl ⟨by rfl, ?_⟩) (by assumption) ?_
  rotate_left
  · (intro w hSw; (try dsimp only at hSw); go_simp; (try with_reducible rfl))
  simp only [Act.put, List.setIfInBounds_toArray, List.set_cons_zero, List.set_cons_succ]
  refine wpAnyH_take (i := 17) (v := ?_) rfl (by kernel_rfl) (by kernel_rfl) (by kernel_rfl) (fun _ _ _ h => h) (Or.inl ⟨by rfl, ?_⟩) (by assumption) ?_
  rotate_left
  · (intro w hSw; (try dsimp only at hSw); go_simp; (try with_reducible rfl))
  simp only [Act.put, List.setIfInBounds_toArray, List.set_cons_zero, List.set_cons_succ]
  refine wpAnyH_take (i := 18) (v := ?_) rfl (by kernel_rfl) (by kernel_rfl) (by kernel_rfl) (fun _ _ _ h => h) (Or.inl ⟨by rfl, ?_⟩) (by assumption) ?_
  rotate_left
  · (intro w hSw; (try dsimp only at hSw); go_simp; (try with_reducible rfl))
  simp only [Act.put, List.setIfInBounds_toArray, List.set_cons_zero, List.set_cons_succ]
  refine wpAnyH_take (i := 19) (v := ?_) rfl (by kernel_rfl) (by kernel_rfl) (by kernel_rfl) (fun _ _ _ h => h) (Or.inl ⟨by rfl, ?_⟩) (by assumption) ?_
  rotate_left
  · (intro w hSw; (try dsimp only at hSw); go_simp; (try with_reducible rfl))
  simp only [Act.put, List.setIfInBounds_toArray, List.set_cons_zero, List.set_cons_succ]
  refine wpAnyH_take (i := 20) (v := ?_) rfl (by kernel_rfl) (by kernel_rfl) (by kernel_rfl) (fun _ _ _ h => h) (Or.inl ⟨by rfl, ?_⟩) (by assumption) ?_
  rotate_left
  · (intro w hSw; (try dsimp only at hSw); go_simp; (try with_reducible rfl))
  simp only [Act.put, List.setIfInBounds_toArray, List.set_cons_zero, List.set_cons_succ]
  refine wpAnyH_take (i := 21) (v := ?_) rfl (by kernel_rfl) (by kernel_rfl) (by kernel_rfl) (fun _ _ _ h => h) (Or.inl ⟨by rfl, ?_⟩) (by assumption) ?_
  rotate_left
  · (intro w hSw; (try dsimp only at hSw); go_simp; (try with_reducible rfl))
  simp only [Act.put, List.setIfInBounds_toArray, List.set_cons_zero, List.set_cons_succ]
  refine wpAnyH_take (i := 22) (v := ?_) rfl (by kernel_rfl) (by kernel_rfl) (by kernel_rfl) (fun _ _ _ h => h) (Or.inl ⟨by rfl, ?_⟩) (by assumption) ?_
  rotate_left
  · (intro w hSw; (try dsimp only at hSw); go_simp; (try with_reducible rfl))
  simp only [Act.put, List.setIfInBounds_toArray, List.set_cons_zero, List.set_cons_succ]
  refine wpAnyH_take (i := 23) (v := ?_) rfl (by kernel_rfl) (by kernel_rfl) (by kernel_rfl) (fun _ _ _ h => h) (Or.inl ⟨by rfl, ?_⟩) (by assumption) ?_
  rotate_left
  · (intro w hSw; (try dsimp only at hSw); go_simp; (try with_reducible rfl))
  simp only [Act.put, List.setIfInBounds_toArray, List.set_cons_zero, List.set_cons_succ]
  refine wpAnyH_take (i := 24) (v := ?_) rfl (by kernel_rfl) (by kernel_rfl) (by kernel_rfl) (fun _ _ _ h => h) (Or.inl ⟨by rfl, ?_⟩) (by assumption) ?_
  rotate_left
  · (intro w hSw; (try dsimp only at hSw); go_simp; (try with_reducible rfl))
  simp only [Act.put, List.setIfInBounds_toArray, List.set_cons_zero, List.set_cons_succ]
  refine wpAnyH_take (i := 25) (v := ?_) rfl (by kernel_rfl) (by kernel_rfl) (by kernel_rfl) (fun _ _ _ h => h) (Or.inl ⟨by rfl, ?_⟩) (by assumption) ?_
  rotate_left
  · (intro w hSw; (try dsimp only at hSw); go_simp; (try with_reducible rfl))
  simp only [Act.put, List.setIfInBounds_toArray, List.set_cons_zero, List.set_cons_succ]
  simp only [List.getElem_toArray, List.getElem_cons_succ, List.getElem_cons_zero, Act.put, List.setIfInBounds_toArray, List.set_cons_zero, List.set_cons_succ]
  refine wpAnyH_take (i := 27) (v := ?_) rfl (by kernel_rfl) (by kernel_rfl) (by kernel_rfl) (fun _ _ _ h => h) (Or.inl ⟨by rfl, ?_⟩) (by assumption) ?_
  rotate_left
  · (intro w hSw; (try dsimp only at hSw); go_simp; (try with_reducible rfl))
  simp only [Act.put, List.setIfInBounds_toArray, List.set_cons_zero, List.set_cons_succ]
  simp only [List.getElem_toArray, List.getElem_cons_succ, List.getElem_cons_zero, Act.put, List.setIfInBounds_toArray, List.set_cons_zero, List.set_cons_succ]
  refine wpAnyH_take (i := 26) (v := ?_) rfl (by kernel_rfl) (by kernel_rfl) (by kernel_rfl) (fun _ _ _ h => h) (Or.inl ⟨by rfl, ?_⟩) (by assumption) ?_
  rotate_left
  · (intro w hSw; (try dsimp only at hSw); go_simp; (try with_reducible rfl))
  simp only [Act.put, List.setIfInBounds_toArray, List.set_cons_zero, List.set_cons_succ]
  refine wpAnyH_ready (rs := [28]) (by kernel_rfl) (by simp) ?_
  refine AllReadyH.cons rfl (fun K hK => ?_) AllReadyH.nil
  go_simp
  refine hK.out _ _ (hS1 _) (fun hS2 => ?_)
  clear hK K hS
  refine wpAnyH_take (i := 29) (v := ?_) rfl (by kernel_rfl) (by kernel_rfl) (by kernel_rfl) (fun _ _ _ h => h) (Or.inl ⟨by rfl, ?_⟩) (by assumption) ?_
  rotate_left
  · (intro w hSw; (try dsimp only at hSw); go_simp; (try with_reducible rfl))
  simp only [Act.put, List.setIfInBounds_toArray, List.set_cons_zero, List.set_cons_succ]
  simp only [List.getElem_toArray, List.getElem_cons_succ, List.getElem_cons_zero, Act.put, List.setIfInBounds_toArray, List.set_cons_zero, List.set_cons_succ]
  refine wpAnyH_ready (rs := [30]) (by kernel_rfl) (by simp) ?_
  refine AllReadyH.cons rfl (fun K hK => ?_) AllReadyH.nil
  go_simp
  refine hK.out _ _ (hS3 _) (fun hS4 => ?_)
  clear hK K hS2
  refine wpAnyH_done (by kernel_rfl) ?_ _
  clear hS4 hS1 hS3 hS0 cru1 frk1 crk frk ck cu cru fru x0 x1 x2 x3 x4 x5 hcx hcz hcx0 hcz0
  generalize (W.setCell ⟨rk, y, none⟩ (.bool b)).setCell ⟨ru, s, none⟩ (.bool b) = W2 at *
  clear hW
  cases b with
  | true =>
    go_wp2
    go_end0
    exact ⟨rfl, H5.out⟩
  | false =>
    go_wp2
    go_end0
    exact ⟨rfl, H3.out⟩
end Go.Proofs.Ytcnjlkabdfcjdaa
