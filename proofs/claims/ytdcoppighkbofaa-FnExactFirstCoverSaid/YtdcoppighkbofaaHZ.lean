/- Covers, the reference's search: its state under its steps. No condition beyond those stated. -/
import Derived.Test.YtdcoppighkbofaaHY
import Derived.Test.YtdcoppighkbofaaGF
import Derived.Test.YtdcoppighkbofaaGB
set_option linter.unusedVariables false
set_option linter.unusedSimpArgs false
namespace Go.Proofs.Ytdcoppighkbofaa
open Go.RowKit

theorem ne_swap {a b : Option Nat} (h : a = none ∨ a ≠ b) : b = none ∨ b ≠ a := by
  rcases h with h | h
  · by_cases hb : b = none
    · exact .inl hb
    · exact .inr (by rw [h]; exact hb)
  · exact .inr (fun e => h e.symm)
theorem OS.short {w : World} {B : Nat} {e : TypeId} {g n c k : Nat} {xs : List Value} (h : OS w B e 1 (some ⟨g, 0, none⟩) n c xs) (hk : k ≤ n) : OS w B e 1 (some ⟨g, 0, none⟩) k c (xs.take k) := by
  rcases h.cases with ⟨h0, _⟩ | ⟨g', cur, h0, hB, hg, hnc, hc, hs, ht⟩
  · cases h0
  · injection h0 with h0
    injection h0 with h0
    subst h0
    refine ⟨by have := h.len; simp; omega, .inr ⟨g, c, cur, rfl, hB, hg, by omega, hc, hs, ?_⟩⟩
    rw [← ht, Nat.mul_one, Nat.mul_one, List.take_take, Nat.min_eq_left hk]
theorem ORv.low {w : World} {B : Nat} {e2 e1 : TypeId} {A : Option Addr} {n c : Nat} {vs : List Sl} {zss : List (List Int)} (h : ORv w B e2 e1 A n c vs zss) {p : Addr} (hp : p.block < B) (u : Value) : ORv (w.setCell p u) B e2 e1 A n c vs zss :=
  ⟨h.os.setLow hp u, h.len, fun j v z hv hz => (h.rows j v z hv hz).setLow hp u, h.sep, h.ne⟩
section
variable {w0 w w' : World} {g gp v : Nat} {OA : Option Addr} {on oc : Nat} {os : List (List Int)} {D : Nat} {O : Option Addr} {fc : Nat} {C C' : Option Addr} {m mc m' mc' : Nat} {FA FA' : Option Addr} {fn fk fk' : Nat} {count nodes budget most : Int} {dn dn' : Nat → Bool} {off off' : List Int} {ch ch' : List Nat} {vs : List Sl} {found : List (List Int)}
theorem SCf.lt (h : SCf w0 w g gp v OA on oc os D O fc C m mc FA fn fk count nodes budget most dn off ch vs found) : w0.heap.size + 1 ≤ w.heap.size := by
  have := h.s.x.lt
  have := h.s.gl
  omega
theorem SCf.gB (h : SCf w0 w g gp v OA on oc os D O fc C m mc FA fn fk count nodes budget most dn off ch vs found) (i : Nat) : (⟨g, i, none⟩ : Addr).block < w0.heap.size + 1 := by
  have := h.s.gl
  show g < _
  omega
theorem SCf.gB' (h : SCf w0 w g gp v OA on oc os D O fc C m mc FA fn fk count nodes budget most dn off ch vs found) (i : Nat) : w0.heap.size ≤ (⟨g, i, none⟩ : Addr).block := by
  have := h.s.gl
  show _ ≤ g
  omega
/-- a number of the struct is stored -/
theorem SCf.count_ (h : SCf w0 w g gp v OA on oc os D O fc C m mc FA fn fk count nodes budget most dn off ch vs found) (u : Int) :
    SCf w0 (w.setCell ⟨g, 5, none⟩ (.int .i64 u)) g gp v OA on oc os D O fc C m mc FA fn fk u nodes budget most dn off ch vs found :=
  ⟨⟨h.s.x.set_ 5 _, h.s.p.far (by show gp ≠ g; have := h.s.gl; have := h.s.pl; omega) _, h.s.b.setCell (h.gB' 5) _, h.s.o0, h.s.gl, h.s.pl, h.s.d.setLow (h.gB 5) _, h.s.f.setLow (h.gB 5) _, h.s.c.setLow (h.gB 5) _⟩, h.r.low (h.gB 5) _, h.ro, h.rc, h.co⟩
theorem SCf.nodes_ (h : SCf w0 w g gp v OA on oc os D O fc C m mc FA fn fk count nodes budget most dn off ch vs found) (u : Int) :
    SCf w0 (w.setCell ⟨g, 6, none⟩ (.int .i64 u)) g gp v OA on oc os D O fc C m mc FA fn fk count u budget most dn off ch vs found :=
  ⟨⟨h.s.x.set_ 6 _, h.s.p.far (by show gp ≠ g; have := h.s.gl; have := h.s.pl; omega) _, h.s.b.setCell (h.gB' 6) _, h.s.o0, h.s.gl, h.s.pl, h.s.d.setLow (h.gB 6) _, h.s.f.setLow (h.gB 6) _, h.s.c.setLow (h.gB 6) _⟩, h.r.low (h.gB 6) _, h.ro, h.rc, h.co⟩
/-- a choice more -/
theorem SCf.push (h : SCf w0 w g gp v OA on oc os D O fc C m mc FA fn fk count nodes budget most dn off ch vs found) (hg : w.grownBy w' (blk C)) (hc : OI w' (w0.heap.size + 1) 2 C' m' mc' (intsN ch')) (hn : blk C' = blk C ∨ ∃ k, blk C' = some k ∧ w.heap.size ≤ k) :
    SCf w0 (w'.setCell ⟨g, 3, none⟩ (.slice C' m' mc')) g gp v OA on oc os D O fc C' m' mc' FA fn fk count nodes budget most dn off ch' vs found := by
  have hC : ∀ k, blk C = some k → w0.heap.size + 1 ≤ k := fun k hk => (h.s.c.os.lt hk).1
  have hgC : some g ≠ blk C := fun e => by have := hC g e.symm; have := h.s.gl; omega
  have hpC : some gp ≠ blk C := fun e => by have := hC gp e.symm; have := h.s.pl; omega
  have hlt := h.lt
  have hb : Below w0.heap.size w0 w' := below_own h.s.b hg (by omega) (fun k hk => by have := hC k hk; omega)
  refine ⟨⟨(h.s.x.grown hg hgC).set_ 3 _, (h.s.p.grown hg hpC).far (by show gp ≠ g; have := h.s.gl; have := h.s.pl; omega) _, hb.setCell (h.gB' 3) _, h.s.o0, h.s.gl, h.s.pl,
    (h.s.d.kept hg (OS.typed h.s.d h.s.c.os (by decide))).setLow (h.gB 3) _, (h.s.f.kept hg (ne_swap h.co)).setLow (h.gB 3) _, hc.setLow (h.gB 3) _⟩,
    (h.r.kept hg (OS.typed h.r.os h.s.c.os (by decide)) h.rc).low (h.gB 3) _, h.ro, fun j u hu => ?_, ?_⟩
  · rcases hn with e | ⟨k, e, hk⟩
    · rw [e]; exact h.rc j u hu
    · rw [e]
      refine .inr fun e' => ?_
      have := (h.r.row_lt hu e').2
      omega
  · rcases hn with e | ⟨k, e, hk⟩
    · rw [e]; exact h.co
    · rw [e]
      refine .inr fun e' => ?_
      have := (h.s.f.os.lt e'.symm).2
      omega
/-- the last choice taken back -/
theorem SCf.pop {gC : Nat} {k : Nat} (h : SCf w0 w g gp v OA on oc os D O fc (some ⟨gC, 0, none⟩) (m + 1) mc FA fn fk count nodes budget most dn off (ch ++ [k]) vs found) :
    SCf w0 (w.setCell ⟨g, 3, none⟩ (.slice (some ⟨gC, 0, none⟩) m mc)) g gp v OA on oc os D O fc (some ⟨gC, 0, none⟩) m mc FA fn fk count nodes budget most dn off ch vs found := by
  have hl : m = ch.length := by
    have := h.s.c.len
    simp [intsN] at this
    omega
  have hc : OI w (w0.heap.size + 1) 2 (some ⟨gC, 0, none⟩) m mc (intsN ch) := by
    refine ⟨?_, fun z hz => h.s.c.all z (by unfold intsN at *; simp at *; exact .inl hz)⟩
    have := h.s.c.os.short (k := m) (by omega)
    rw [show (ints (intsN (ch ++ [k]))).take m = ints (intsN ch) by
      unfold ints intsN
      rw [List.map_append, List.map_append, List.take_append_of_le_length (by simp [hl]), List.take_of_length_le (by simp [hl])]] at this
    exact this
  exact h.push (World.grownBy.refl w _) hc (.inl rfl)
/-- a cover more -/
theorem SCf.more {u : Sl} {z : List Int} (h : SCf w0 w g gp v OA on oc os D O fc C m mc FA fn fk count nodes budget most dn off ch vs found) (hg : w.grownBy w' (blk FA)) (hr : ORv w' (w0.heap.size + 1) 32 2 FA' (fn + 1) fk' (vs ++ [u]) (found ++ [z]))
    (hO : blk u.1 = none ∨ blk u.1 ≠ blk O) (hC : blk u.1 = none ∨ blk u.1 ≠ blk C) :
    SCf w0 (w'.setCell ⟨g, 4, none⟩ (.slice FA' (fn + 1) fk')) g gp v OA on oc os D O fc C m mc FA' (fn + 1) fk' count nodes budget most dn off ch (vs ++ [u]) (found ++ [z]) := by
  have hF : ∀ k, blk FA = some k → w0.heap.size + 1 ≤ k := fun k hk => (h.r.os.lt hk).1
  have hgF : some g ≠ blk FA := fun e => by have := hF g e.symm; have := h.s.gl; omega
  have hpF : some gp ≠ blk FA := fun e => by have := hF gp e.symm; have := h.s.pl; omega
  have hlt := h.lt
  have hb : Below w0.heap.size w0 w' := below_own h.s.b hg (by omega) (fun k hk => by have := hF k hk; omega)
  refine ⟨⟨(h.s.x.grown hg hgF).set_ 4 _, (h.s.p.grown hg hpF).far (by show gp ≠ g; have := h.s.gl; have := h.s.pl; omega) _, hb.setCell (h.gB' 4) _, h.s.o0, h.s.gl, h.s.pl,
    (h.s.d.kept hg (OS.typed h.s.d h.r.os (by decide))).setLow (h.gB 4) _, (h.s.f.kept hg (OS.typed h.s.f.os h.r.os (by decide))).setLow (h.gB 4) _, (h.s.c.kept hg (OS.typed h.s.c.os h.r.os (by decide))).setLow (h.gB 4) _⟩,
    hr.low (h.gB 4) _, fun j y hy => ?_, fun j y hy => ?_, h.co⟩
  · rw [List.getElem?_append] at hy
    split at hy
    · exact h.ro j y hy
    · have := List.mem_of_getElem? hy
      rw [List.mem_singleton.1 this]; exact hO
  · rw [List.getElem?_append] at hy
    split at hy
    · exact h.rc j y hy
    · have := List.mem_of_getElem? hy
      rw [List.mem_singleton.1 this]; exact hC
/-- marking an option that is open, and taking it back -/
theorem mark_cov (os : List (List Int)) (ch : List Nat) (k : Nat) : (fun x : Nat => if memB (row os k) (x : Nat) then decide ((0 : Int) < 1) else covB os ch (x : Nat)) = fun x : Nat => covB os (ch ++ [k]) (x : Nat) := by
  funext x
  rw [covB_snoc]
  by_cases h : memB (row os k) (x : Nat) = true
  · rw [if_pos h, h]; simp
  · rw [if_neg h, Bool.eq_false_iff.2 h]; simp
theorem unmark_cov {os : List (List Int)} {ch : List Nat} {k : Nat} (ho : openB os ch k = true) : (fun x : Nat => if memB (row os k) (x : Nat) then decide ((0 : Int) < -1) else covB os (ch ++ [k]) (x : Nat)) = fun x : Nat => covB os ch (x : Nat) := by
  funext x
  rw [covB_snoc]
  by_cases h : memB (row os k) (x : Nat) = true
  · rw [if_pos h, open_item ho (memB_true.1 h)]; simp
  · rw [if_neg h, Bool.eq_false_iff.2 h]; simp
theorem offL_offF {os : List (List Int)} {on : Nat} (h : os.length = on) (ch : List Nat) : offL os ch = offF on (fun i => (offN os ch i : Int)) := by
  subst h; rfl
theorem mark_off {os : List (List Int)} {on : Nat} (h : os.length = on) (ch : List Nat) (k : Nat) : offF on (fun i => (offN os ch i : Int) + if meetB os i k then (1 : Int) else 0) = offL os (ch ++ [k]) := by
  rw [offL_offF h]
  refine offF_congr fun i _ => ?_
  rw [offN_snoc]
  split <;> simp
theorem unmark_off {os : List (List Int)} {on : Nat} (h : os.length = on) (ch : List Nat) (k : Nat) : offF on (fun i => (offN os (ch ++ [k]) i : Int) + if meetB os i k then (-1 : Int) else 0) = offL os ch := by
  rw [offL_offF h]
  refine offF_congr fun i _ => ?_
  rw [offN_snoc]
  split <;> simp <;> omega
end
/-! the plain search, step by step -/
def pickB (os : List (List Int)) (ch : List Nat) (x : Int) (i : Nat) : Bool := memB (row os i) x && openB os ch i
def choTo (os : List (List Int)) (ch : List Nat) (x : Int) (i : Nat) : List Nat := (List.range i).filter (pickB os ch x)
theorem choTo_all (os : List (List Int)) (ch : List Nat) (x : Int) : choTo os ch x os.length = optsAt os ch x := by
  unfold choTo optsAt withP
  rw [List.filter_filter]
  congr 1
  funext i
  rw [pickB, Bool.and_comm]
theorem choTo_yes {os : List (List Int)} {ch : List Nat} {x : Int} {i : Nat} (h : pickB os ch x i = true) : choTo os ch x (i + 1) = choTo os ch x i ++ [i] := by
  unfold choTo
  rw [List.range_succ, List.filter_append]
  simp [h]
theorem choTo_no {os : List (List Int)} {ch : List Nat} {x : Int} {i : Nat} (h : pickB os ch x i = false) : choTo os ch x (i + 1) = choTo os ch x i := by
  unfold choTo
  rw [List.range_succ, List.filter_append]
  simp [h]
theorem fold_more {β : Type} (G : β → Nat → β) {os : List (List Int)} {ch : List Nat} {x : Int} {s t : β} (ht : ∀ k, G t k = t) {i : Nat} (h : (choTo os ch x i).foldl G s = t) : ∀ d, (choTo os ch x (i + d)).foldl G s = t
  | 0 => h
  | d + 1 => by
    have ih := fold_more G ht h d
    rw [← Nat.add_assoc]
    cases hp : pickB os ch x (i + d) with
    | true => rw [choTo_yes hp, List.foldl_append, ih]; exact ht _
    | false => rw [choTo_no hp, ih]
def visP (os : List (List Int)) (v : Nat) (sub : Cst → List Nat → Cst) (s : Cst) (ch : List Nat) : Cst :=
  if s.left = 0 then { s with spent := true } else if (bestTo os ch v).isNone then { s with left := s.left - 1, found := s.found ++ [setG sgnI (intsN ch)] } else
    (choP os ch v).foldl (fun s k => sub s (ch ++ [k])) { s with left := s.left - 1 }
theorem visC_succ {os : List (List Int)} {v f : Nat} {first : Bool} {s : Cst} {ch : List Nat} (h : stopC first s = false) : visC os v first (f + 1) s ch = visP os v (visC os v first f) s ch := by
  rw [visC, if_neg (by rw [h]; simp)]
  rfl
theorem visC_zero {os : List (List Int)} {v : Nat} {first : Bool} {s : Cst} {ch : List Nat} (h : stopC first s = false) (h0 : s.left = 0) (sub : Cst → List Nat → Cst) : visC os v first 0 s ch = visP os v sub s ch := by
  rw [visC, if_neg (by rw [h]; simp), visP, if_pos h0]
end Go.Proofs.Ytdcoppighkbofaa
/- Covers, the reference's visit. No condition beyond those stated. -/
namespace Go.Proofs.Ytdcoppighkbofaa
open Go.RowKit

def SCx (w0 w : World) (g gp v : Nat) (OA : Option Addr) (on oc : Nat) (os : List (List Int)) (budget most count nodes : Int) (ch : List Nat) (found : List (List Int)) : Prop :=
  ∃ D O fc C m mc FA fn fk vs, SCf w0 w g gp v OA on oc os D O fc C m mc FA fn fk count nodes budget most (fun x => covB os ch (x : Nat)) (offL os ch) ch vs found
def nodesI (budget : Int) (s : Cst) : Int := budget - s.left + (if s.spent then 1 else 0)
def foundM (most : Int) (l : List (List Int)) : List (List Int) := if most = 0 then [] else l
def SCs (w0 w : World) (g gp v : Nat) (OA : Option Addr) (on oc : Nat) (os : List (List Int)) (budget most : Int) (s : Cst) (ch : List Nat) : Prop :=
  SCx w0 w g gp v OA on oc os budget most (s.found.length : Nat) (nodesI budget s) ch (foundM most s.found)
def Most (most : Int) (first : Bool) : Prop := (most = 0 ∧ first = false) ∨ (most = 1 ∧ first = true) ∨ (most = 20001 ∧ first = false)
def RetV (w0 : World) (g gp v : Nat) (OA : Option Addr) (on oc : Nat) (os : List (List Int)) (budget most : Int) (first : Bool) (s : Cst) (ch : List Nat) (e : Ending) (w' : World) : Prop :=
  e = .returned (.bool (!stopC first s)) ∧ SCs w0 w' g gp v OA on oc os budget most s ch
set_option maxRecDepth 100000 in
set_option maxHeartbeats 4000000 in
theorem visit_step (w0 w : World) (g gp v : Nat) (OA : Option Addr) (on oc : Nat) (os : List (List Int)) (budget most : Int) (first : Bool) (s : Cst) (ch : List Nat) (sub : Cst → List Nat → Cst)
    (hS : SCs w0 w g gp v OA on oc os budget most s ch) (hC : Cover (v : Int) os) (hch : Chosen os ch) (hst : stopC first s = false) (hM : Most most first) (hb : budget ≤ 20000) (hl : (s.left : Int) ≤ budget) (hf : s.found.length + s.left ≤ 20000)
    (hsub : ∀ (w' : World) (s' : Cst) (ch' : List Nat), s'.left < s.left → stopC first s' = false → Chosen os ch' → s'.found.length + s'.left ≤ 20000 → SCs w0 w' g gp v OA on oc os budget most s' ch' → Calls Try.prog 30 #[.pointer (some ⟨g, 0, none⟩)] w' (RetV w0 g gp v OA on oc os budget most first (sub s' ch') ch'))
    (hle : ∀ s' ch', CLe s' (sub s' ch')) (hstop : ∀ s' ch', stopC first s' = true → sub s' ch' = s') :
    Calls Try.prog 30 #[.pointer (some ⟨g, 0, none⟩)] w (RetV w0 g gp v OA on oc os budget most first (visP os v sub s ch) ch) := by
  obtain ⟨D, O, fc, C, m, mc, FA, fn, fk, vs, h⟩ := hS
  have hsp : s.spent = false := by
    unfold stopC at hst
    rw [Bool.or_eq_false_iff] at hst
    exact hst.1
  have hni : nodesI budget s = budget - s.left := by rw [nodesI, hsp]; simp
  obtain ⟨nd, hnd⟩ : ∃ nd : Int, budget - (s.left : Int) = nd := ⟨_, rfl⟩
  rw [hnd] at hni
  rw [hni] at h
  have hnd0 : 0 ≤ nd := by omega
  have hnd1 : nd ≤ 20000 := by omega
  have hos := h.s.o0.len
  have hon : on ≤ 256 := by have := hC.len; omega
  have hv : v ≤ 64 := by have := hC.v2; omega
  obtain ⟨-, -, -, x6, x7, -⟩ := h.s.cells
  have z6 := h.s.x.frozen 6
  have h1 := h.nodes_ (nd + 1)
  obtain ⟨W1, hW1⟩ : ∃ W1, w.setCell ⟨g, 6, none⟩ (.int .i64 (nd + 1)) = W1 := ⟨_, rfl⟩
  rw [hW1] at h1
  have HND := Lib.hid hnd
  have HL := Lib.hid hl
  have HF := Lib.hid hf
  have HNI := Lib.hid hni
  have HSP := Lib.hid hsp
  have H1 := Lib.hid h1
  have HC := Lib.hid hC
  have HCH := Lib.hid hch
  have HST := Lib.hid hst
  have HOS := Lib.hid hos
  have HSUB := Lib.hid hsub
  have HLE := Lib.hid hle
  have HSTOP := Lib.hid hstop
  by_cases h0 : s.left = 0
  · have hgt : nd + 1 > budget := by omega
    clear h h1 hni hnd hl hC hch hst hf hsub hle hstop hos hsp
    go_enter Try.func30, Try.ntmps30
    go_wp2
    obtain ⟨-, -, -, y6, y7, -⟩ := H1.out.s.cells
    go_quiet (fail)
    go_wp2
    go_ret
    rw [visP, if_pos h0]
    refine ⟨by simp [stopC], ?_⟩
    have e : nodesI budget { s with spent := true } = nd + 1 := by
      have := HND.out
      have h3 : nodesI budget { s with spent := true } = budget - (s.left : Int) + 1 := by simp [nodesI]
      rw [h3, this]
    unfold SCs SCx
    rw [e]
    exact ⟨_, _, _, _, _, _, _, _, _, _, H1.out.below (below_drewn _ _)⟩
  · have hgt : ¬ nd + 1 > budget := by omega
    have hbest := fun (q : Nat) => best_any w0 (W1.drewN q) g gp v OA on oc os D O fc C m mc FA fn fk (s.found.length : Nat) (nd + 1) budget most ch (h1.below (below_drewn W1 q)).s hv hon
    have HB := Lib.hid hbest
    clear hbest
    cases hbt : bestTo os ch v with
    | none =>
      have hbi : bestI os ch v = -1 := by rw [bestI, hbt]
      have HP := Lib.hid (show visP os v sub s ch = { s with left := s.left - 1, found := s.found ++ [setG sgnI (intsN ch)] } by rw [visP, if_neg h0, hbt]; rfl)
      clear h h1 hni hnd hl hC hch hst hf hsub hle hstop hos hsp hbt
      go_enter Try.func30, Try.ntmps30
      go_wp2
      obtain ⟨-, -, -, y6, y7, -⟩ := H1.out.s.cells
      go_quiet (fail)
      go_wp2_with fail
      refine (HB.out _).mono ?_
      rintro e w2 ⟨rfl, hd2⟩
      rw [hbi]
      have h2 := (H1.out.below (below_drewn W1 nq)).below hd2.below
      clear x6 x7 z6 y6 y7 hW1 hd2 HB
      obtain ⟨-, -, x5, x6, x7, x8⟩ := h2.s.cells
      have z5 := h2.s.x.frozen 5
      have hfb : s.found.length + 1 ≤ 20000 := by have := HF.out; omega
      have h3 := h2.count_ ((s.found.length : Int) + 1)
      obtain ⟨W3, hW3⟩ : ∃ W3, w2.setCell ⟨g, 5, none⟩ (.int .i64 ((s.found.length : Int) + 1)) = W3 := ⟨_, rfl⟩
      rw [hW3] at h3
      have HFin := Lib.hid (show ∀ w', SCx w0 w' g gp v OA on oc os budget most ((s.found.length : Int) + 1) (nd + 1) ch (foundM most (s.found ++ [setG sgnI (intsN ch)])) → SCs w0 w' g gp v OA on oc os budget most (visP os v sub s ch) ch from fun w' hh => by
        rw [HP.out]
        unfold SCs
        have e : nodesI budget { left := s.left - 1, spent := s.spent, found := s.found ++ [setG sgnI (intsN ch)] } = nd + 1 := by
          have h5 := HND.out
          have h6 := HSP.out
          simp only [nodesI, h6]
          rw [if_neg (by simp)]
          omega
        rw [e]
        simpa using hh)
      have H3 := Lib.hid h3
      clear h2 h3
      by_cases hm0 : most = 0
      · subst hm0
        have HR := Lib.hid (show (!stopC first (visP os v sub s ch)) = true by
          rw [HP.out]
          rcases hM with ⟨_, rfl⟩ | ⟨h, _⟩ | ⟨h, _⟩
          · simp [stopC, HSP.out]
          · omega
          · omega)
        obtain ⟨-, -, y5, y6, y7, y8⟩ := H3.out.s.cells
        go_wp2
        go_quiet (fail)
        go_wp2
        go_ret
        refine ⟨by rw [HR.out]; rfl, HFin.out _ ?_⟩
        exact ⟨_, _, _, _, _, _, _, _, _, _, H3.out.below (below_drewn _ _)⟩
      · have hmp : most > 0 := by rcases hM with ⟨h, _⟩ | ⟨h, _⟩ | ⟨h, _⟩ <;> omega
        have hmb : most ≤ 20001 := by rcases hM with ⟨h, _⟩ | ⟨h, _⟩ | ⟨h, _⟩ <;> omega
        have hdc : decide ((s.found.length : Int) + 1 < most) = !stopC first (visP os v sub s ch) := by
          rw [HP.out]
          rcases hM with ⟨h, _⟩ | ⟨rfl, rfl⟩ | ⟨rfl, rfl⟩
          · omega
          · simp [stopC, HSP.out]; omega
          · simp [stopC, HSP.out]; omega
        have HDC := Lib.hid hdc
        clear hdc
        obtain ⟨-, ⟨-, -, -, y3, y4⟩, y5, y6, y7, y8⟩ := H3.out.s.cells
        go_wp2
        have hdr : Below W3.heap.size W3 W3.drew := by have := below_drewn W3 1; rwa [← World.drew_is_drewN] at this
        refine region_lastC (P := Try.prog) (S := fun w' => w'.cell? ⟨g, 4, none⟩ = some (.slice FA fn fk) ∧ w'.cell? ⟨g, 3, none⟩ = some (.slice C m mc)) (by kernel_rfl) (by simp only [List.getLast?_cons_cons, List.getLast?_singleton]; rfl) (by dsimp only [List.dropLast]) (by kernel_rfl) (by simpa using ⟨y4, y3⟩) ?_
        intro hS
        refine wpAnyH_take (i := 0) (v := ?_) rfl (by kernel_rfl) (by kernel_rfl) (by kernel_rfl) (fun _ _ _ h => h) (Or.inl ⟨by rfl, ?_⟩) (by assumption) ?_
        rotate_left
        · (intro w hSw; (try dsimp only at hSw); go_simp; (try with_reducible rfl))
        simp only [Act.put, List.setIfInBounds_toArray, List.set_cons_zero, List.set_cons_succ]
        refine wpAnyH_take (i := 1) (v := ?_) rfl (by kernel_rfl) (by kernel_rfl) (by kernel_rfl) (fun _ _ _ h => h) (Or.inl ⟨by rfl, ?_⟩) (by assumption) ?_
        rotate_left
        · (intro w hSw; (try dsimp only at hSw); go_simp; (try with_reducible rfl))
        simp only [Act.put, List.setIfInBounds_toArray, List.set_cons_zero, List.set_cons_succ]
        refine wpAnyH_take (i := 2) (v := ?_) rfl (by kernel_rfl) (by kernel_rfl) (by kernel_rfl) (fun _ _ _ h => h) (Or.inl ⟨by rfl, ?_⟩) (by assumption) ?_
        rotate_left
        · (intro w hSw; (try dsimp only at hSw); go_simp; (try with_reducible rfl))
        simp only [Act.put, List.setIfInBounds_toArray, List.set_cons_zero, List.set_cons_succ]
        refine wpAnyH_take (i := 3) (v := ?_) rfl (by kernel_rfl) (by kernel_rfl) (by kernel_rfl) (fun _ _ _ h => h) (Or.inl ⟨by rfl, ?_⟩) (by assumption) ?_
        rotate_left
        · (intro w hSw; (try dsimp only at hSw); go_simp; (try with_reducible rfl))
        simp only [Act.put, List.setIfInBounds_toArray, List.set_cons_zero, List.set_cons_succ]
        refine wpAnyH_take (i := 4) (v := ?_) rfl (by kernel_rfl) (by kernel_rfl) (by kernel_rfl) (fun _ _ _ h => h) (Or.inl ⟨by rfl, ?_⟩) (by assumption) ?_
        rotate_left
        · (intro w hSw; (try dsimp only at hSw); go_simp; (try with_reducible rfl))
        simp only [Act.put, List.setIfInBounds_toArray, List.set_cons_zero, List.set_cons_succ]
        refine wpAnyH_take (i := 5) (v := ?_) rfl (by kernel_rfl) (by kernel_rfl) (by kernel_rfl) (fun _ _ _ h => h) (Or.inl ⟨by rfl, ?_⟩) (by assumption) ?_
        rotate_left
        · (intro w hSw; (try dsimp only at hSw); go_simp; (try with_reducible rfl))
        simp only [Act.put, List.setIfInBounds_toArray, List.set_cons_zero, List.set_cons_succ]
        refine wpAnyH_take (i := 6) (v := ?_) rfl (by kernel_rfl) (by kernel_rfl) (by kernel_rfl) (fun _ _ _ h => h) (Or.inl ⟨by rfl, ?_⟩) (by assumption) ?_
        rotate_left
        · (intro w hSw; (try dsimp only at hSw); go_simp; (try with_reducible rfl))
        simp only [Act.put, List.setIfInBounds_toArray, List.set_cons_zero, List.set_cons_succ]
        refine wpAnyH_take (i := 7) (v := ?_) rfl (by kernel_rfl) (by kernel_rfl) (by kernel_rfl) (fun _ _ _ h => h) (Or.inl ⟨by rfl, ?_⟩) (by assumption) ?_
        rotate_left
        · (intro w hSw; (try dsimp only at hSw); go_simp; (try with_reducible rfl))
        simp only [Act.put, List.setIfInBounds_toArray, List.set_cons_zero, List.set_cons_succ]
        refine wpAnyH_take (i := 8) (v := ?_) rfl (by kernel_rfl) (by kernel_rfl) (by kernel_rfl) (fun _ _ _ h => h) (Or.inl ⟨by rfl, ?_⟩) (by assumption) ?_
        rotate_left
        · (intro w hSw; (try dsimp only at hSw); go_simp; (try with_reducible rfl))
        simp only [Act.put, List.setIfInBounds_toArray, List.set_cons_zero, List.set_cons_succ]
        refine wpAnyH_ready (rs := [9]) (by kernel_rfl) (by simp) ?_
        refine AllReadyH.cons rfl (fun K hK => ?_) AllReadyH.nil
        go_simp
        have hcn := H3.out.s.c.len
        have hcl : m ≤ 256 := by
          have h5 := HCH.out.len
          have h6 := HOS.out
          simp [intsN] at hcn
          omega
        refine (l24Sorted_any C m mc (intsN ch) _ (H3.out.s.c.reads.keep hdr) (by omega)).mono ?_
        rintro e w5 ⟨A5, n5, k5, rfl, ho5, hb5⟩
        dsimp only
        have hb5' : Below W3.heap.size W3 w5 := hdr.trans (hb5.mono (Nat.le_refl _))
        refine hK.out _ _ ⟨below_cell hb5' y4, below_cell hb5' y3⟩ (fun hS1 => ?_)
        clear hK K hS
        refine wpAnyH_ready (rs := [10]) (by kernel_rfl) (by simp) ?_
        refine AllReadyH.cons rfl (fun K hK => ?_) AllReadyH.nil
        go_simp
        have hb6 := hb5'.trans ((below_alloc w5 (.cells #[.slice A5 n5 k5] 32)).mono hb5'.size)
        refine hK.out _ _ ⟨below_cell hb6 y4, below_cell hb6 y3⟩ (fun hS2 => ?_)
        clear hK K hS1
        refine wpAnyH_ready (rs := [11]) (by kernel_rfl) (by simp) ?_
        refine AllReadyH.cons rfl (fun K hK => ?_) AllReadyH.nil
        have H5 := H3.out.below hb5'
        have hsz : W3.heap.size ≤ w5.heap.size := hb5'.size
        have hnew : ∀ k, blk A5 = some k → W3.heap.size ≤ k := fun k hk => (ho5.os.lt hk).1
        have hfn := H5.r.slen
        have hfn2 : fn ≤ 20000 := by
          unfold foundM at hfn
          rw [if_neg hm0] at hfn
          omega
        have hap : ∀ (j : Nat) (u : Sl), vs[j]? = some u → apart u (A5, n5, k5) := H3.out.r.apart_new hnew
        refine step_of_list (by rfl) ?_
        refine app_row _ (by rfl) (.tmp 42) (.tmp 48) (by rfl) (w0.heap.size + 1) FA fn fk vs (foundM most s.found) (by rfl) H5.r (A5, n5, k5) _ (ho5.more H3.out.lt) hap w5.heap.size (by rfl) rfl (by omega) H5.lt ?_
        intro A6 c6 w6 ho6 hg6 hf6
        have hFB : ∀ k, blk FA = some k → w0.heap.size + 1 ≤ k := fun k hk => (H5.r.os.lt hk).1
        have hX6 := H5.s.x.grown hg6 (fun e => by have := hFB g e.symm; have := H5.s.gl; omega)
        have H6 := H5.more hg6 ho6 (by
          by_cases hz : blk A5 = none
          · exact .inl hz
          · exact .inr fun e => by
              obtain ⟨k, hk⟩ := Option.ne_none_iff_exists'.1 hz
              have h7 := hnew k hk
              have h8 := (H3.out.s.f.os.lt (e.symm.trans hk)).2
              omega) (by
          by_cases hz : blk A5 = none
          · exact .inl hz
          · exact .inr fun e => by
              obtain ⟨k, hk⟩ := Option.ne_none_iff_exists'.1 hz
              have h7 := hnew k hk
              have h8 := (H3.out.s.c.os.lt (e.symm.trans hk)).2
              omega)
        refine list_onlyK ?_
        refine hK.out _ _ ⟨hX6.cell 4, hX6.cell 3⟩ (fun hS3 => ?_)
        clear hK K hS2
        refine wpAnyH_take (i := 12) (v := ?_) rfl (by kernel_rfl) (by kernel_rfl) (by kernel_rfl) (fun _ _ _ h => h) (Or.inl ⟨by rfl, ?_⟩) (by assumption) ?_
        rotate_left
        · (intro w hSw; (try dsimp only at hSw); go_simp; (try with_reducible rfl))
        simp only [Act.put, List.setIfInBounds_toArray, List.set_cons_zero, List.set_cons_succ]
        refine wpAnyH_take (i := 13) (v := ?_) rfl (by kernel_rfl) (by kernel_rfl) (by kernel_rfl) (fun _ _ _ h => h) (Or.inl ⟨by rfl, ?_⟩) (by assumption) ?_
        rotate_left
        · (intro w hSw; (try dsimp only at hSw); go_simp; (try with_reducible rfl))
        simp only [Act.put, List.setIfInBounds_toArray, List.set_cons_zero, List.set_cons_succ]
        refine wpAnyH_done (by kernel_rfl) ?_ _
        dsimp only [atEnd]
        have z4 := hX6.frozen 4
        have q4 := hX6.cell 4
        obtain ⟨W7, hW7⟩ : ∃ W7, w6.setCell ⟨g, 4, none⟩ (.slice A6 (fn + 1) c6) = W7 := ⟨_, rfl⟩
        rw [hW7] at H6
        have HF6 := Lib.hid H6
        clear H6 H5 hX6 hap hnew ho6 hg6 hf6 hFB ho5 hb5 hb5' hb6 hS3 y3 y4 y5 y6 y7 y8 x5 x6 x7 x8 z5 hW3 hdr hfn hcn
        obtain ⟨-, -, y5, y6, y7, y8⟩ := HF6.out.s.cells
        have hm0' : (most == 0) = false := by simpa using hm0
        go_wp2
        go_quiet (fail)
        go_wp2
        go_ret
        refine ⟨by rw [HDC.out]; rfl, HFin.out _ ?_⟩
        have e : foundM most (s.found ++ [setG sgnI (intsN ch)]) = foundM most s.found ++ [setG sgnI (intsN ch)] := by unfold foundM; rw [if_neg hm0, if_neg hm0]
        rw [e]
        exact ⟨_, _, _, _, _, _, _, _, _, _, HF6.out.below (below_drewn _ _)⟩
    | some x =>
      have hbi : bestI os ch v = (x : Int) := by rw [bestI, hbt]
      have hxv : x < v := by
        have := (best_bd os ch v).2.1
        rw [hbi] at this
        omega
      have HP := Lib.hid (show visP os v sub s ch = (choTo os ch (x : Nat) on).foldl (fun s k => sub s (ch ++ [k])) { s with left := s.left - 1 } by
        rw [visP, if_neg h0, hbt, ← hos, choTo_all]
        simp only [Option.isNone_some, Bool.false_eq_true, if_false]
        unfold choP
        rw [hbt])
      have hx0 : ¬ (x : Int) < 0 := by omega
      have hstart : SCs w0 W1 g gp v OA on oc os budget most { s with left := s.left - 1 } ch := by
        have e : nodesI budget { s with left := s.left - 1 } = nd + 1 := by
          simp only [nodesI, hsp]
          rw [if_neg (by simp)]
          omega
        unfold SCs
        rw [e]
        exact ⟨_, _, _, _, _, _, _, _, _, _, h1⟩
      have hst1 : stopC first { s with left := s.left - 1 } = false := hst
      generalize hG : (fun (s : Cst) (k : Nat) => sub s (ch ++ [k])) = G at *
      clear h h1 hni hnd hl hC hch hst hf hsub hle hstop hsp hbt
      go_enter Try.func30, Try.ntmps30
      go_wp2
      obtain ⟨-, -, -, y6, y7, -⟩ := H1.out.s.cells
      go_quiet (fail)
      go_wp2_with fail
      refine (HB.out _).mono ?_
      rintro e w2 ⟨rfl, hd2⟩
      rw [hbi]
      have hb2 := (below_drewn W1 nq).trans (hd2.below.mono (by simp))
      have hS2 : SCs w0 w2 g gp v OA on oc os budget most { s with left := s.left - 1 } ch := by
        obtain ⟨D, O, fc, C, m, mc, FA, fn, fk, vs, h⟩ := hstart
        exact ⟨_, _, _, _, _, _, _, _, _, _, h.below hb2⟩
      clear x6 x7 z6 y6 y7 hW1 hd2 HB H1 hstart hb2
      go_wp2
      go_loopw [4] (fun i wr => ∃ (k : Nat) (t : Cst), k ≤ on ∧ i = .int .i64 k ∧ SCs w0 wr g gp v OA on oc os budget most t ch ∧ t = (choTo os ch (x : Nat) k).foldl G { s with left := s.left - 1 } ∧ stopC first t = false) (fun i _ => on - (intOf i).toNat)
      case atStart => exact ⟨0, _, Nat.zero_le _, rfl, hS2, rfl, hst1⟩
      case round =>
        clear hS2 D O fc C m mc FA fn fk vs
        obtain ⟨k, t, hk, rfl, hS, ht, hts⟩ := hrel
        obtain ⟨D, O, fc, C, m, mc, FA, fn, fk, vs, h⟩ := hS
        obtain ⟨⟨x0, x1⟩, ⟨y0, y1, y2, y3, y4⟩, -⟩ := h.s.cells
        by_cases hlt : k < on
        · have HT := Lib.hid ht
          have hsf := h.s.f
          obtain ⟨gO, rfl, cO, fO, -⟩ := h.s.f.cell hlt
          obtain ⟨a1, A1, n1, c1, rfl, co, hn1, hc1, hr1⟩ := h.s.o.get hlt
          have hkl : k < os.length := by rw [hos]; exact hlt
          rw [offL_nth hkl] at cO
          have hcall := l00Has_any A1 n1 c1 _ (x : Int) _ hr1 (by omega)
          rw [tB_memB] at hcall
          have hcle : CLe { s with left := s.left - 1 } t := by
            rw [ht]
            exact foldl_inv (fun t => CLe { s with left := s.left - 1 } t) G (fun t j hh => by rw [← hG]; exact hh.trans (HLE.out _ _)) _ _ (CLe.refl _)
          cases ho : openB os ch k with
          | false =>
            have hz : ((offN os ch k : Nat) : Int) ≠ 0 := fun e => by
              have := offN_zero.1 (Int.ofNat_eq_zero.1 e)
              rw [this] at ho; cases ho
            have hz' : (((offN os ch k : Nat) : Int) != 0) = true := by simpa using hz
            have hst := Lib.hid (show t = (choTo os ch (x : Nat) (k + 1)).foldl G { s with left := s.left - 1 } by rw [choTo_no (by rw [pickB, ho, Bool.and_false])]; exact HT.out)
            generalize ((offN os ch k : Nat) : Int) = oz at *
            clear ho ht hcle hsf
            go_wp2
            go_roundw
            case rel => exact ⟨k + 1, t, by omega, by go_num, ⟨_, _, _, _, _, _, _, _, _, _, h⟩, hst.out, hts⟩
            case measure => simp [intOf]; omega
          | true =>
            rw [offN_zero.2 ho] at cO
            cases hm : memB (row os k) (x : Nat) with
            | false =>
              rw [hm] at hcall
              have hst := Lib.hid (show t = (choTo os ch (x : Nat) (k + 1)).foldl G { s with left := s.left - 1 } by rw [choTo_no (by rw [pickB, hm, Bool.false_and])]; exact HT.out)
              clear ho ht hcle hsf hm
              go_wp2_with (go_at_call 39; refine hcall.mono ?_; rintro e w' ⟨rfl, rfl⟩)
              go_roundw
              case rel => exact ⟨k + 1, t, by omega, by go_num, ⟨_, _, _, _, _, _, _, _, _, _, h⟩, hst.out, hts⟩
              case measure => simp [intOf]; omega
            | true =>
              rw [hm] at hcall
              have HCH2 := Lib.hid (HCH.out.snoc hkl (memB_true.1 hm) ho)
              have hst := Lib.hid (show sub t (ch ++ [k]) = (choTo os ch (x : Nat) (k + 1)).foldl G { s with left := s.left - 1 } by
                rw [choTo_yes (by rw [pickB, hm, ho]; rfl), List.foldl_append, ← HT.out, ← hG]; rfl)
              have HO := Lib.hid ho
              have hmk := mark_any w0 wr g gp v (some a1) on oc os D (some ⟨gO, 0, none⟩) fc C m mc FA fn fk (t.found.length : Nat) (nodesI budget t) budget most (fun x => covB os ch (x : Nat)) (fun i => (offN os ch i : Int)) ch vs (foundM most t.found) k 1
                (by rw [← offL_offF hos]; exact h) HC.out hlt (.inl rfl) (fun i => by have := offN_le os ch i; have := HCH.out.len; omega)
              rw [mark_cov, mark_off hos] at hmk
              have hleft : t.left < s.left := by have := hcle.left; dsimp only at this; omega
              have hfl : t.found.length + t.left ≤ 20000 := by have h7 := hcle.found; have := HF.out; dsimp only at h7; omega
              have HFL := Lib.hid (And.intro hleft hfl)
              have hcl := h.s.c.len
              have hml : m ≤ 256 := by
                have h5 := HCH.out.len
                simp [intsN] at hcl
                omega
              clear ht hcle hsf hm ho h hleft hfl hcl
              go_wp2_with (go_at_call 39; refine hcall.mono ?_; rintro e w' ⟨rfl, rfl⟩)
              clear x0 x1 y0 y1 y2 y3 y4 cO co hcall
              refine hmk.mono ?_
              rintro e w3 ⟨rfl, h3⟩
              obtain ⟨-, ⟨-, -, -, y3, -⟩, -⟩ := h3.s.cells
              have hlt3 := h3.lt
              have hcall2 := fun (w5 : World) (hh : SCs w0 w5 g gp v (some a1) on oc os budget most t (ch ++ [k])) => HSUB.out w5 t (ch ++ [k]) HFL.out.1 hts HCH2.out HFL.out.2 hh
              have HCA := Lib.hid hcall2
              have H3 := Lib.hid h3
              clear hcall2 h3 hmk hts
              have hki : I64 (k : Int) := by unfold I64; omega
              go_wp2_with (at_builtin; refine app_int _ rfl (.tmp 110) (.tmp 112) rfl (w0.heap.size + 1) C m mc (intsN ch) rfl H3.out.s.c (k : Int) w3.heap.size rfl rfl hki (by omega) hlt3 ?_; intro C4 c4 w4 ho4 hg4 hf4; have h4 := H3.out.push (ch' := ch ++ [k]) hg4 (by simpa [intsN] using ho4) hf4; have hx4 : w4.frozen? ⟨g, 3, none⟩ = false := (H3.out.s.x.grown hg4 (fun e => by have := (H3.out.s.c.os.lt e.symm).1; have := H3.out.s.gl; omega)).frozen 3; have hq4 : w4.cell? ⟨g, 3, none⟩ = some (.slice C m mc) := (H3.out.s.x.grown hg4 (fun e => by have := (H3.out.s.c.os.lt e.symm).1; have := H3.out.s.gl; omega)).cell 3; have H4 := Lib.hid h4; clear h4 ho4 hg4 hf4)
              refine (HCA.out _ ⟨_, _, _, _, _, _, _, _, _, _, H4.out⟩).mono ?_
              clear hx4 hq4 H4 H3 y3 hlt3 HCA
              rintro e w5 ⟨rfl, D5, O5, fc5, C5, m5, mc5, FA5, fn5, fk5, vs5, h5⟩
              generalize hok : (!stopC first (sub t (ch ++ [k]))) = ok at *
              obtain ⟨m6, rfl⟩ : ∃ m6, m5 = m6 + 1 := by
                have := h5.s.c.len
                exact ⟨ch.length, by simp [intsN] at this; omega⟩
              obtain ⟨gC, rfl, hgC, hgC'⟩ := h5.s.c.os.form (Nat.succ_pos _)
              have hcap := h5.s.c.os.cap
              obtain ⟨-, ⟨-, -, -, y3, -⟩, -⟩ := h5.s.cells
              have z3 := h5.s.x.frozen 3
              have H6 := Lib.hid h5.pop
              have HOK := Lib.hid hok
              clear h5 hok
              go_wp2
              refine region_lastC (P := Try.prog) (S := fun w' => w'.cell? ⟨g, 3, none⟩ = some (.slice (some ⟨gC, 0, none⟩) (m6 + 1) mc5)) (by kernel_rfl) (by simp only [List.getLast?_cons_cons, List.getLast?_singleton]; rfl) (by dsimp only [List.dropLast]) (by kernel_rfl) (by simpa using y3) ?_
              intro hS
              refine wpAnyH_take (i := 0) (v := ?_) rfl (by kernel_rfl) (by kernel_rfl) (by kernel_rfl) (fun _ _ _ h => h) (Or.inl ⟨by rfl, ?_⟩) (by assumption) ?_
              rotate_left
              · (intro w hSw; (try dsimp only at hSw); go_simp; (try with_reducible rfl))
              simp only [Act.put, List.setIfInBounds_toArray, List.set_cons_zero, List.set_cons_succ]
              refine wpAnyH_take (i := 1) (v := ?_) rfl (by kernel_rfl) (by kernel_rfl) (by kernel_rfl) (fun _ _ _ h => h) (Or.inl ⟨by rfl, ?_⟩) (by assumption) ?_
              rotate_left
              · (intro w hSw; (try dsimp only at hSw); go_simp; (try with_reducible rfl))
              simp only [Act.put, List.setIfInBounds_toArray, List.set_cons_zero, List.set_cons_succ]
              refine wpAnyH_take (i := 2) (v := ?_) rfl (by kernel_rfl) (by kernel_rfl) (by kernel_rfl) (fun _ _ _ h => h) (Or.inl ⟨by rfl, ?_⟩) (by assumption) ?_
              rotate_left
              · (intro w hSw; (try dsimp only at hSw); go_simp; (try with_reducible rfl))
              simp only [Act.put, List.setIfInBounds_toArray, List.set_cons_zero, List.set_cons_succ]
              refine wpAnyH_take (i := 3) (v := ?_) rfl (by kernel_rfl) (by kernel_rfl) (by kernel_rfl) (fun _ _ _ h => h) (Or.inl ⟨by rfl, ?_⟩) (by assumption) ?_
              rotate_left
              · (intro w hSw; (try dsimp only at hSw); go_simp; (try with_reducible rfl))
              simp only [Act.put, List.setIfInBounds_toArray, List.set_cons_zero, List.set_cons_succ]
              refine wpAnyH_take (i := 4) (v := ?_) rfl (by kernel_rfl) (by kernel_rfl) (by kernel_rfl) (fun _ _ _ h => h) (Or.inl ⟨by rfl, ?_⟩) (by assumption) ?_
              rotate_left
              · (intro w hSw; (try dsimp only at hSw); go_simp; (try with_reducible rfl))
              simp only [Act.put, List.setIfInBounds_toArray, List.set_cons_zero, List.set_cons_succ]
              refine wpAnyH_take (i := 5) (v := ?_) rfl (by kernel_rfl) (by kernel_rfl) (by kernel_rfl) (fun _ _ _ h => h) (Or.inl ⟨by rfl, ?_⟩) (by assumption) ?_
              rotate_left
              · (intro w hSw; (try dsimp only at hSw); go_simp; (try with_reducible rfl))
              simp only [Act.put, List.setIfInBounds_toArray, List.set_cons_zero, List.set_cons_succ]
              refine wpAnyH_take (i := 6) (v := ?_) rfl (by kernel_rfl) (by kernel_rfl) (by kernel_rfl) (fun _ _ _ h => h) (Or.inl ⟨by rfl, ?_⟩) (by assumption) ?_
              rotate_left
              · (intro w hSw; (try dsimp only at hSw); go_simp; (try with_reducible rfl))
              simp only [Act.put, List.setIfInBounds_toArray, List.set_cons_zero, List.set_cons_succ]
              refine wpAnyH_take (i := 7) (v := ?_) rfl (by kernel_rfl) (by kernel_rfl) (by kernel_rfl) (fun _ _ _ h => h) (Or.inl ⟨by rfl, ?_⟩) (by assumption) ?_
              rotate_left
              · (intro w hSw; (try dsimp only at hSw); go_simp; (try with_reducible rfl))
              simp only [Act.put, List.setIfInBounds_toArray, List.set_cons_zero, List.set_cons_succ]
              refine wpAnyH_take (i := 8) (v := ?_) rfl (by kernel_rfl) (by kernel_rfl) (by kernel_rfl) (fun _ _ _ h => h) (Or.inl ⟨by rfl, ?_⟩) (by assumption) ?_
              rotate_left
              · (intro w hSw; (try dsimp only at hSw); go_simp; (try with_reducible rfl))
              simp only [Act.put, List.setIfInBounds_toArray, List.set_cons_zero, List.set_cons_succ]
              refine wpAnyH_take (i := 9) (v := ?_) rfl (by kernel_rfl) (by kernel_rfl) (by kernel_rfl) (fun _ _ _ h => h) (Or.inl ⟨by rfl, ?_⟩) (by assumption) ?_
              rotate_left
              · (intro w hSw; (try dsimp only at hSw); go_simp; (try with_reducible rfl))
              simp only [Act.put, List.setIfInBounds_toArray, List.set_cons_zero, List.set_cons_succ]
              refine wpAnyH_take (i := 10) (v := ?_) rfl (by kernel_rfl) (by kernel_rfl) (by kernel_rfl) (fun _ _ _ h => h) (Or.inl ⟨by rfl, ?_⟩) (by assumption) ?_
              rotate_left
              · (intro w hSw; (try dsimp only at hSw); go_simp; (try with_reducible rfl))
              simp only [Act.put, List.setIfInBounds_toArray, List.set_cons_zero, List.set_cons_succ]
              refine wpAnyH_ready (rs := [11]) (by kernel_rfl) (by simp) ?_
              refine AllReadyH.cons rfl (fun K hK => ?_) AllReadyH.nil
              go_simp
              rw [show IntKind.i64.wrap (m6 : Int) = (m6 : Int) by (rw [IntKind.wrap_i64]; omega), if_pos ⟨by omega, by omega⟩, Int.toNat_natCast]
              go_simp
              refine hK.out _ _ hS (fun hS1 => ?_)
              clear hK K hS
              refine wpAnyH_take (i := 12) (v := ?_) rfl (by kernel_rfl) (by kernel_rfl) (by kernel_rfl) (fun _ _ _ h => h) (Or.inl ⟨by rfl, ?_⟩) (by assumption) ?_
              rotate_left
              · (intro w hSw; (try dsimp only at hSw); go_simp; (try with_reducible rfl))
              simp only [Act.put, List.setIfInBounds_toArray, List.set_cons_zero, List.set_cons_succ]
              simp only [List.getElem_toArray, List.getElem_cons_succ, List.getElem_cons_zero]
              refine wpAnyH_take (i := 13) (v := ?_) rfl (by kernel_rfl) (by kernel_rfl) (by kernel_rfl) (fun _ _ _ h => h) (Or.inl ⟨by rfl, ?_⟩) (by assumption) ?_
              rotate_left
              · (intro w hSw; (try dsimp only at hSw); go_simp; (try with_reducible rfl))
              simp only [Act.put, List.setIfInBounds_toArray, List.set_cons_zero, List.set_cons_succ]
              simp only [List.getElem_toArray, List.getElem_cons_succ, List.getElem_cons_zero]
              refine wpAnyH_done (by kernel_rfl) ?_ _
              dsimp only [atEnd]
              have hdr : Below w5.heap.size w5 w5.drew := by have := below_drewn w5 1; rwa [← World.drew_is_drewN] at this
              have H7 := H6.out
              obtain ⟨W7, hW7⟩ : ∃ W7, w5.setCell ⟨g, 3, none⟩ (.slice (some ⟨gC, 0, none⟩) m6 mc5) = W7 := ⟨_, rfl⟩
              rw [hW7] at H7
              have hW8 : w5.drew.setCell ⟨g, 3, none⟩ (.slice (some ⟨gC, 0, none⟩) m6 mc5) = W7.drew := by rw [← hW7]; rfl
              have hdr : Below W7.heap.size W7 W7.drew := by have := below_drewn W7 1; rwa [← World.drew_is_drewN] at this
              have hmk2 := mark_any w0 W7.drew g gp v (some a1) on oc os D5 O5 fc5 (some ⟨gC, 0, none⟩) m6 mc5 FA5 fn5 fk5 ((sub t (ch ++ [k])).found.length : Nat) (nodesI budget (sub t (ch ++ [k]))) budget most (fun x => covB os (ch ++ [k]) (x : Nat)) (fun i => (offN os (ch ++ [k]) i : Int)) ch vs5 (foundM most (sub t (ch ++ [k])).found) k (-1)
                (by rw [← offL_offF hos]; exact H7.below hdr) HC.out hlt (.inr rfl) (fun i => by have := offN_le os (ch ++ [k]) i; have := HCH2.out.len; omega)
              rw [unmark_cov HO.out, unmark_off hos] at hmk2
              clear H7 H6 hW7 hdr
              cases ok with
              | true =>
                have hts2 : stopC first (sub t (ch ++ [k])) = false := by have := HOK.out; simpa using this
                go_wp2_with fail
                refine hmk2.mono ?_
                rintro e w9 ⟨rfl, h9⟩
                clear hmk2 y3 z3 hW8
                go_wp2
                go_roundw
                case rel => exact ⟨k + 1, sub t (ch ++ [k]), by omega, by go_num, ⟨_, _, _, _, _, _, _, _, _, _, h9⟩, hst.out, hts2⟩
                case measure => simp [intOf]; omega
              | false =>
                have hts2 : stopC first (sub t (ch ++ [k])) = true := by have := HOK.out; simpa using this
                have hfin : visP os v sub s ch = sub t (ch ++ [k]) := by
                  rw [HP.out]
                  have h5 := fold_more (os := os) (ch := ch) (x := (x : Nat)) G (t := sub t (ch ++ [k])) (fun j => by rw [← hG]; exact HSTOP.out _ _ hts2) hst.out.symm (on - (k + 1))
                  rwa [show k + 1 + (on - (k + 1)) = on by omega] at h5
                have HFI := Lib.hid hfin
                clear hfin
                go_wp2_with fail
                refine hmk2.mono ?_
                rintro e w9 ⟨rfl, h9⟩
                clear hmk2 y3 z3 hW8
                go_wp2
                go_ret
                rw [HFI.out]
                exact ⟨by rw [hts2]; rfl, _, _, _, _, _, _, _, _, _, _, h9⟩
        · obtain rfl : k = on := by omega
          go_wp2
          go_ret
          rw [HP.out, ← ht]
          exact ⟨by rw [hts]; rfl, _, _, _, _, _, _, _, _, _, _, h⟩
end Go.Proofs.Ytdcoppighkbofaa
