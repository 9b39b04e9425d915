/- Transversals, the reference's search. No condition beyond those stated. -/
import Derived.Test.YtcnjlkabdfcjdaaZBO
import Derived.Test.YtcnjlkabdfcjdaaZAF
set_option linter.unusedVariables false
set_option linter.unusedSimpArgs false
namespace Go.Proofs.Ytcnjlkabdfcjdaa
open Go.RowKit

def ISs (w0 w : World) (M n : Nat) (SA : Option Addr) (sc : Nat) (a : List (List Int)) (lim : Nat) (budget : Int) (s : TSt) (cols : List Int) (C FA : Option Addr) : Prop :=
  ∃ m mc fn fk vs, ISt w0 w M n SA sc a lim C m mc FA fn fk (budget - (s.left : Nat)) budget s.spent cols vs s.found
def RetSs (w0 w : World) (M n : Nat) (SA : Option Addr) (sc : Nat) (a : List (List Int)) (lim : Nat) (budget : Int) (s : TSt) (cols : List Int) (C FA : Option Addr) (e : Ending) (w' : World) : Prop :=
  e = .returned (.tuple #[]) ∧ ∃ C' FA', ISs w0 w' M n SA sc a lim budget s cols C' FA' ∧ Kc M w w' C C' FA FA'
set_option maxRecDepth 100000 in
set_option maxHeartbeats 4000000 in
theorem runT_leaf (w0 w : World) (M n : Nat) (SA : Option Addr) (sc : Nat) (a : List (List Int)) (lim : Nat) (budget : Int) (s : TSt) (cols : List Int) (C FA : Option Addr) (hS : ISs w0 w M n SA sc a lim budget s cols C FA) (hl : cols.length = n) (hn : n ≤ 10) (hf : s.found.length ≤ 1000) :
    Calls Try.prog 41 #[.pointer (some ⟨w0.heap.size, 0, none⟩)] w (RetSs w0 w M n SA sc a lim budget { s with found := s.found ++ [cols] } cols C FA) := by
  obtain ⟨m, mc, fn, fk, vs, h⟩ := hS
  have hml := h.c.len
  obtain rfl : m = n := by omega
  obtain ⟨⟨x0, x1, x2, -⟩, -⟩ := h.cells
  have hfn := h.r.slen
  have hfn2 : fn ≤ 1000 := by omega
  have H := Lib.hid h
  clear h hf hml hl hfn
  go_enter Try.func41, Try.ntmps41
  go_wp2
  have hdr : Below w.heap.size w w.drew := by have := below_drewn w 1; rwa [← World.drew_is_drewN] at this
  refine region_suf (P := Try.prog) (n := 12) (S := fun w' => w'.cell? ⟨w0.heap.size, 2, none⟩ = some (.slice FA fn fk) ∧ w'.cell? ⟨w0.heap.size, 1, none⟩ = some (.slice C m mc)) (by kernel_rfl) (by simp only [List.take_succ_cons, List.take_zero]; rfl) (by simp only [List.drop_succ_cons, List.drop_zero]; rfl) (by kernel_rfl) (by simpa using ⟨x2, x1⟩) ?_
  intro hS
  refine wpAnyH_take (i := 0) (v := ?_) rfl (by kernel_rfl) (by kernel_rfl) (by kernel_rfl) (fun _ _ _ h => h) (Or.inl ⟨by rfl, ?_⟩) (by assumption) ?_
  rotate_left
  · (intro w hSw; (try dsimp only at hSw); go_simp; (try with_reducible rfl))
  simp only [Act.put, List.setIfInBounds_toArray, List.set_cons_zero, List.set_cons_succ]
  refine wpAnyH_take (i := 1) (v := ?_) rfl (by kernel_rfl) (by kernel_rfl) (by kernel_rfl) (fun _ _ _ h => h) (Or.inl ⟨by rfl, ?_⟩) (by assumption) ?_
  rotate_left
  · (intro w hSw; (try dsimp only at hSw); go_simp; (try with_reducible rfl))
  simp only [Act.put, List.setIfInBounds_toArray, List.set_cons_zero, List.set_cons_succ]
  refine wpAnyH_take (i := 2) (v := ?_) rfl (by kernel_rfl) (by kernel_rfl) (by kernel_rfl) (fun _ _ _ h => h) (Or.inl ⟨by rfl, ?_⟩) (by assumption) ?_
  rotate_left
  · (intro w hSw; (try dsimp only at hSw); go_simp; (try with_reducible rfl))
  simp only [Act.put, List.setIfInBounds_toArray, List.set_cons_zero, List.set_cons_succ]
  refine wpAnyH_take (i := 3) (v := ?_) rfl (by kernel_rfl) (by kernel_rfl) (by kernel_rfl) (fun _ _ _ h => h) (Or.inl ⟨by rfl, ?_⟩) (by assumption) ?_
  rotate_left
  · (intro w hSw; (try dsimp only at hSw); go_simp; (try with_reducible rfl))
  simp only [Act.put, List.setIfInBounds_toArray, List.set_cons_zero, List.set_cons_succ]
  refine wpAnyH_take (i := 4) (v := ?_) rfl (by kernel_rfl) (by kernel_rfl) (by kernel_rfl) (fun _ _ _ h => h) (Or.inl ⟨by rfl, ?_⟩) (by assumption) ?_
  rotate_left
  · (intro w hSw; (try dsimp only at hSw); go_simp; (try with_reducible rfl))
  simp only [Act.put, List.setIfInBounds_toArray, List.set_cons_zero, List.set_cons_succ]
  refine wpAnyH_take (i := 5) (v := ?_) rfl (by kernel_rfl) (by kernel_rfl) (by kernel_rfl) (fun _ _ _ h => h) (Or.inl ⟨by rfl, ?_⟩) (by assumption) ?_
  rotate_left
  · (intro w hSw; (try dsimp only at hSw); go_simp; (try with_reducible rfl))
  simp only [Act.put, List.setIfInBounds_toArray, List.set_cons_zero, List.set_cons_succ]
  refine wpAnyH_take (i := 6) (v := ?_) rfl (by kernel_rfl) (by kernel_rfl) (by kernel_rfl) (fun _ _ _ h => h) (Or.inl ⟨by rfl, ?_⟩) (by assumption) ?_
  rotate_left
  · (intro w hSw; (try dsimp only at hSw); go_simp; (try with_reducible rfl))
  simp only [Act.put, List.setIfInBounds_toArray, List.set_cons_zero, List.set_cons_succ]
  refine wpAnyH_take (i := 7) (v := ?_) rfl (by kernel_rfl) (by kernel_rfl) (by kernel_rfl) (fun _ _ _ h => h) (Or.inl ⟨by rfl, ?_⟩) (by assumption) ?_
  rotate_left
  · (intro w hSw; (try dsimp only at hSw); go_simp; (try with_reducible rfl))
  simp only [Act.put, List.setIfInBounds_toArray, List.set_cons_zero, List.set_cons_succ]
  refine wpAnyH_take (i := 8) (v := ?_) rfl (by kernel_rfl) (by kernel_rfl) (by kernel_rfl) (fun _ _ _ h => h) (Or.inl ⟨by rfl, ?_⟩) (by assumption) ?_
  rotate_left
  · (intro w hSw; (try dsimp only at hSw); go_simp; (try with_reducible rfl))
  simp only [Act.put, List.setIfInBounds_toArray, List.set_cons_zero, List.set_cons_succ]
  refine wpAnyH_ready (rs := [9]) (by kernel_rfl) (by simp) ?_
  refine AllReadyH.cons rfl (fun K hK => ?_) AllReadyH.nil
  go_simp
  refine (l00Own_any C m mc cols _ (H.out.c.reads.keep hdr) (by omega)).mono ?_
  rintro e w5 ⟨A5, n5, k5, rfl, ho5, hb5⟩
  dsimp only
  have hb5' : Below w.heap.size w w5 := hdr.trans (hb5.mono (Nat.le_refl _))
  refine hK.out _ _ ⟨below_cell hb5' x2, below_cell hb5' x1⟩ (fun hS1 => ?_)
  clear hK K hS
  refine wpAnyH_ready (rs := [10]) (by kernel_rfl) (by simp) ?_
  refine AllReadyH.cons rfl (fun K hK => ?_) AllReadyH.nil
  go_simp
  have hb6 := hb5'.trans ((below_alloc w5 (.cells #[.slice A5 n5 k5] 30)).mono hb5'.size)
  refine hK.out _ _ ⟨below_cell hb6 x2, below_cell hb6 x1⟩ (fun hS2 => ?_)
  clear hK K hS1
  refine wpAnyH_ready (rs := [11]) (by kernel_rfl) (by simp) ?_
  refine AllReadyH.cons rfl (fun K hK => ?_) AllReadyH.nil
  have H5 := H.out.below hb5'
  have hsz : w.heap.size ≤ w5.heap.size := hb5'.size
  have hnew : ∀ k, blk A5 = some k → w.heap.size ≤ k := fun k hk => (ho5.os.lt hk).1
  have hap : ∀ (j : Nat) (u : Sl), vs[j]? = some u → apart u (A5, n5, k5) := H.out.r.apart_new hnew
  have hC5 : blk A5 = none ∨ blk A5 ≠ blk C := by
    by_cases hz : blk A5 = none
    · exact .inl hz
    · exact .inr fun e => by
        obtain ⟨k, hk⟩ := Option.ne_none_iff_exists'.1 hz
        have h7 := hnew k hk
        have h8 := (H.out.c.os.lt (e.symm.trans hk)).2
        omega
  refine step_of_list (by rfl) ?_
  refine app_row _ (by rfl) (.tmp 22) (.tmp 28) (by rfl) M FA fn fk vs s.found (by rfl) H5.r (A5, n5, k5) _ (ho5.more H.out.M3) hap w5.heap.size (by rfl) rfl (by omega) H5.M3 ?_
  intro A6 c6 w6 ho6 hg6 hf6
  have hX6 := (H5.grow hg6 (fun k hk => H5.r.os.lt hk)).1
  have H6 := H5.more hg6 ho6 hC5
  refine list_onlyK ?_
  refine hK.out _ _ ⟨hX6.cell 2, hX6.cell 1⟩ (fun hS3 => ?_)
  clear hK K hS2
  refine wpAnyH_done (by kernel_rfl) ?_ _
  dsimp only [atEnd]
  have z6 := hX6.frozen 2
  have q6 := hX6.cell 2
  have HK6 : Kc M w (w6.setCell ⟨w0.heap.size, 2, none⟩ (.slice A6 (fn + 1) c6)) C C FA A6 := (((Kc.of_below hb5').trans (Kc.grownF (C := C) hg6 hf6))).trans (Kc.set (C := C) (FA := A6) (p := ⟨w0.heap.size, 2, none⟩) (by have := H.out.M2; show w0.heap.size < M; omega) (.slice A6 (fn + 1) c6))
  have HH6 := Lib.hid H6
  have HK := Lib.hid HK6
  clear H6 HK6 H5 hX6 hap hnew ho6 hg6 hf6 ho5 hb5 hb5' hb6 hS3 x0 x1 x2 hdr hC5
  go_wp2
  refine bodyPost_ret (results_none rfl _ _ _) rfl ?_
  exact ⟨rfl, C, A6, ⟨m, mc, fn + 1, c6, vs ++ [(A5, n5, k5)], HH6.out⟩, HK.out⟩
/-- the search below a node -/
def SubR (w0 : World) (M n : Nat) (SA : Option Addr) (sc : Nat) (a : List (List Int)) (lim : Nat) (budget : Int) (k : Nat) : Prop :=
  ∀ (w' : World) (s' : TSt) (cols' : List Int) (C' FA' : Option Addr), cols'.length + k = n → Bnd n cols' → s'.spent = false → s'.found.length < lim → ((s'.left : Nat) : Int) ≤ budget → ISs w0 w' M n SA sc a lim budget s' cols' C' FA' →
    Calls Try.prog 41 #[.pointer (some ⟨w0.heap.size, 0, none⟩)] w' (RetSs w0 w' M n SA sc a lim budget (trS a lim k cols' s') cols' C' FA')
set_option maxRecDepth 100000 in
set_option maxHeartbeats 8000000 in
theorem runT_step (w0 w : World) (M n : Nat) (SA : Option Addr) (sc : Nat) (a : List (List Int)) (lim : Nat) (budget : Int) (k : Nat) (s : TSt) (cols : List Int) (C FA : Option Addr)
    (hq : Square a) (hl : cols.length + (k + 1) = n) (hcb : Bnd n cols) (hlim : lim ≤ 100) (hb2 : budget ≤ 20000) (hsp : s.spent = false) (hfl : s.found.length < lim) (hsl : ((s.left : Nat) : Int) ≤ budget) (hS : ISs w0 w M n SA sc a lim budget s cols C FA) (hsub : SubR w0 M n SA sc a lim budget k) :
    Calls Try.prog 41 #[.pointer (some ⟨w0.heap.size, 0, none⟩)] w (RetSs w0 w M n SA sc a lim budget (trS a lim (k + 1) cols s) cols C FA) := by
  obtain ⟨m, mc, fn, fk, vs, h⟩ := hS
  have hml := h.c.len
  have han := h.o0.len
  have hn10 : n ≤ 10 := by have := hq.2.1; omega
  obtain rfl : m = cols.length := by omega
  have HSL := Lib.hid (fun (c : List Int) (t : TSt) (h1 : t.found.length < lim) (h2 : t.left ≤ budget.toNat) => trS_le (a := a) (lim := lim) (L := budget.toNat) k c t h1 h2)
  obtain ⟨R, hR⟩ : ∃ R, trS a lim (k + 1) cols s = R := ⟨_, rfl⟩
  rw [hR]
  have HR := Lib.hid (show trL (trS a lim k) a lim cols ((List.range n).drop 0) s = R by rw [List.drop_zero, ← hR, trS, han])
  obtain ⟨⟨x0, x1, x2, x3⟩, x4, x5, x6⟩ := h.cells
  have S0 : ISs w0 w M n SA sc a lim budget s cols C FA := ⟨_, mc, fn, fk, vs, h⟩
  have HFL := Lib.hid (show s.found.length ≤ lim by omega)
  have HSUB := Lib.hid hsub
  have HM := Lib.hid h.M2
  have hk : cols.length < n := by omega
  have HCL := Lib.hid hl
  have HQ := Lib.hid hq
  have HCB := Lib.hid hcb
  clear h hsub hml han hR hfl hq hl hcb
  generalize hG : trS a lim k = G at *
  have hxn : ((cols.length : Int) == (n : Int)) = false := by simp; omega
  go_enter Try.func41, Try.ntmps41
  go_wp2
  go_loopw [4] (fun i wr => ∃ (y : Nat) (t : TSt) (C' FA' : Option Addr), y ≤ n ∧ i = .int .i64 y ∧ ISs w0 wr M n SA sc a lim budget t cols C' FA' ∧ Kc M w wr C C' FA FA' ∧ trL G a lim cols ((List.range n).drop y) t = R ∧ t.found.length ≤ lim ∧ ((t.left : Nat) : Int) ≤ budget) (fun i _ => n - (intOf i).toNat)
  case atStart => exact ⟨0, s, C, FA, Nat.zero_le _, rfl, S0, Kc.of_below (Below.refl _ _), HR.out, HFL.out, hsl⟩
  case round =>
    clear S0 x0 x1 x2 x3 x4 x5 x6 hsp hsl HR HFL
    obtain ⟨y, t, C1, FA1, hy, rfl, hS, hK, hT, htf, htl⟩ := hrel
    by_cases hlt : y < n
    · obtain ⟨m1, mc1, fn1, fk1, vs1, h⟩ := hS
      have hml := h.c.len
      obtain rfl : m1 = cols.length := hml.symm
      have hfr := freeS_any h HQ.out hk y hlt HCB.out
      rw [drop_range hlt, trL] at hT
      have HS := Lib.hid h
      have HK := Lib.hid hK
      have HTF := Lib.hid (And.intro htf htl)
      clear h hK
      cases hfc : freeT a cols y with
      | false =>
        rw [hfc] at hfr hT
        rw [if_neg (by simp)] at hT
        have HT := Lib.hid hT
        clear hT htf htl hfc
        go_wp2_with (go_at_call 75; refine hfr.mono ?_; rintro e w1 ⟨rfl, nq, rfl⟩)
        go_roundw
        case rel => exact ⟨y + 1, t, C1, FA1, by omega, by go_num, ⟨_, _, _, _, _, HS.out.below (below_drewn wr nq)⟩, HK.out.trans (Kc.of_below (below_drewn wr nq)), HT.out, HTF.out⟩
        case measure => simp [intOf]; omega
      | true =>
        rw [hfc] at hfr hT
        rw [if_pos rfl] at hT
        have HT := Lib.hid hT
        clear hT hfc
        go_wp2_with fail
        refine hfr.mono ?_
        rintro e w1 ⟨rfl, nq, rfl⟩
        have h1 := HS.out.below (below_drewn wr nq)
        have K1 := HK.out.trans (Kc.of_below (C := C1) (FA := FA1) (below_drewn wr nq))
        clear hfr HS HK
        generalize wr.drewN nq = W at *
        obtain ⟨⟨x0, x1, x2, x3⟩, x4, x5, x6⟩ := h1.cells
        have hfn := h1.r.slen
        have H1 := Lib.hid h1
        have HK1 := Lib.hid K1
        clear h1 K1
        cases hts : t.spent with
        | true =>
          have HRT := Lib.hid (show t = R by have := HT.out; rwa [if_pos (.inl hts)] at this)
          rw [hts] at x6
          clear HT htf htl hfn hts
          go_wp2
          go_quiet (fail)
          go_wp2
          refine bodyPost_ret (results_none rfl _ _ _) rfl ?_
          have hb := below_drewn W nq
          exact ⟨rfl, C1, FA1, HRT.out ▸ ⟨_, _, _, _, _, H1.out.below hb⟩, HK1.out.trans (Kc.of_below hb)⟩
        | false =>
          have HTS := Lib.hid hts
          rw [hts] at x6
          by_cases hfe : fn1 = lim
          · have HRT := Lib.hid (show t = R by have := HT.out; rwa [if_pos (.inr (by omega))] at this)
            subst hfe
            clear HT htf htl hfn hts HTS
            go_wp2
            go_quiet (fail)
            go_wp2
            refine bodyPost_ret (results_none rfl _ _ _) rfl ?_
            have hb := below_drewn W nq
            exact ⟨rfl, C1, FA1, HRT.out ▸ ⟨_, _, _, _, _, H1.out.below hb⟩, HK1.out.trans (Kc.of_below hb)⟩
          · have hfe2 : ((fn1 : Int) == (lim : Int)) = false := by simp; omega
            have hT := HT.out
            rw [if_neg (fun e => e.elim (fun e => by rw [hts] at e; cases e) (fun e => by omega))] at hT
            have HRT := Lib.hid hT
            have HLT2 := Lib.hid (show t.found.length < lim by omega)
            obtain ⟨nd, hnd⟩ : ∃ nd : Int, budget - ((t.left : Nat) : Int) = nd := ⟨_, rfl⟩
            rw [hnd] at x4
            have hnd0 : 0 ≤ nd := by omega
            have hnd1 : nd ≤ 20000 := by omega
            clear HT hT htf hfn hts
            go_wp2
            go_quiet (fail)
            go_wp2
            have h2 := H1.out.below (below_drewn W nq)
            have k2 := HK1.out.trans (Kc.of_below (C := C1) (FA := FA1) (below_drewn W nq))
            clear x0 x1 x2 x3 x4 x5 x6 H1 HK1 hfe2
            generalize W.drewN nq = W2 at *
            obtain ⟨-, x4, x5, -⟩ := h2.cells
            rw [hnd] at x4
            have H2 := Lib.hid h2
            have HK2 := Lib.hid k2
            clear h2 k2
            by_cases h0 : t.left = 0
            · have hne : nd = budget := by omega
              have HRT2 := Lib.hid (show { t with spent := true } = R by have := HRT.out; rwa [if_pos h0] at this)
              subst hne
              clear HRT h0 hnd
              go_quiet (fail)
              have h3 := H2.out.below (below_drewn W2 nq)
              have k3 := HK2.out.trans (Kc.of_below (C := C1) (FA := FA1) (below_drewn W2 nq))
              clear x4 x5 H2 HK2
              generalize W2.drewN nq = W3 at *
              have x6 := h3.cells.2.2.2
              have z6 := h3.x.frozen 6
              have H3 := Lib.hid (h3.full_ true)
              have HK3 := Lib.hid (k3.trans (Kc.set (C := C1) (FA := FA1) (p := ⟨w0.heap.size, 6, none⟩) (by have := HM.out; show w0.heap.size < M; omega) (.bool true)))
              clear h3 k3
              go_wp2
              refine bodyPost_ret (results_none rfl _ _ _) rfl ?_
              exact ⟨rfl, C1, FA1, HRT2.out ▸ ⟨_, _, _, _, _, H3.out⟩, HK3.out⟩
            · have hne : (nd == budget) = false := by simp; omega
              have HRT2 := Lib.hid (show trL G a lim cols ((List.range n).drop (y + 1)) (G (cols ++ [(y : Int)]) { t with left := t.left - 1 }) = R by have := HRT.out; rwa [if_neg h0] at this)
              clear HRT
              go_quiet (fail)
              have h3 := H2.out.below (below_drewn W2 nq)
              have k3 := HK2.out.trans (Kc.of_below (C := C1) (FA := FA1) (below_drewn W2 nq))
              clear x4 x5 H2 HK2
              generalize W2.drewN nq = W3 at *
              have x4 := h3.cells.2.1
              rw [hnd] at x4
              have z4 := h3.x.frozen 4
              have h4 := h3.nodes_ (nd + 1)
              have k4 := k3.trans (Kc.set (C := C1) (FA := FA1) (p := ⟨w0.heap.size, 4, none⟩) (by have := HM.out; show w0.heap.size < M; omega) (.int .i64 (nd + 1)))
              obtain ⟨W4, hW4⟩ : ∃ W4, W3.setCell ⟨w0.heap.size, 4, none⟩ (.int .i64 (nd + 1)) = W4 := ⟨_, rfl⟩
              rw [hW4] at h4 k4
              have x1 := h4.cells.1.2.1
              have H4 := Lib.hid h4
              have HK4 := Lib.hid k4
              have HM3 := Lib.hid h4.M3
              have hyi : I64 (y : Int) := by unfold I64; omega
              have hb10 : cols.length ≤ 10 := by omega
              clear h3 k3 h4 k4
              go_wp2_with (at_builtin; refine app_int _ rfl (.tmp 81) (.tmp 83) rfl M C1 cols.length mc1 cols rfl H4.out.c (y : Int) W4.heap.size rfl rfl hyi (Nat.le_trans (Nat.succ_le_succ hb10) (by decide)) HM3.out ?_; intro C5 c5 w5 ho5 hg5 hf5; have hX5 := (H4.out.grow hg5 (fun k hk => H4.out.c.os.lt hk)).1; have z1 := hX5.frozen 1; have q1 := hX5.cell 1; have H5 := Lib.hid (H4.out.push (cols' := cols ++ [(y : Int)]) hg5 ho5 hf5); have HK5 := Lib.hid (HK4.out.trans ((Kc.grownC (FA := FA1) hg5 hf5).trans (Kc.set (C := C5) (FA := FA1) (p := ⟨w0.heap.size, 1, none⟩) (by have := HM.out; show w0.heap.size < M; omega) (.slice C5 (cols.length + 1) c5)))); clear hX5 ho5 hg5 hf5)
              have e1 : budget - ((t.left - 1 : Nat) : Int) = nd + 1 := by omega
              refine (HSUB.out _ { t with left := t.left - 1 } (cols ++ [(y : Int)]) C5 FA1 (by have := HCL.out; simp; omega) (HCB.out.snoc hlt) HTS.out HLT2.out (by dsimp only; omega) ⟨cols.length + 1, c5, fn1, fk1, vs1, by
                dsimp only
                rw [e1]
                exact H5.out⟩).mono ?_
              rintro e w7 ⟨rfl, C7, FA7, ⟨m7, mc7, fn7, fk7, vs7, h7⟩, k7⟩
              rw [hG] at h7
              have HT7 := Lib.hid (HSL.out (cols ++ [(y : Int)]) { t with left := t.left - 1 } HLT2.out (by dsimp only; omega))
              generalize G (cols ++ [(y : Int)]) { t with left := t.left - 1 } = T7 at *
              obtain rfl : m7 = cols.length + 1 := by have := h7.c.len; rw [List.length_append, List.length_singleton] at this; omega
              obtain ⟨gC, rfl, hgC, hgC'⟩ := h7.c.os.form (Nat.succ_pos _)
              have hcap := h7.c.os.cap
              have hcap1 : cols.length ≤ mc7 := by omega
              have y1 := h7.cells.1.2.1
              have y2 := h7.x.frozen 1
              have H8 := Lib.hid (h7.pop)
              have HK8 := Lib.hid ((HK5.out.trans k7).trans (Kc.set (C := some ⟨gC, 0, none⟩) (FA := FA7) (p := ⟨w0.heap.size, 1, none⟩) (by have := HM.out; show w0.heap.size < M; omega) (.slice (some ⟨gC, 0, none⟩) cols.length mc7)))
              have HB7 := Lib.hid (show T7.found.length ≤ lim ∧ ((T7.left : Nat) : Int) ≤ budget from ⟨HT7.out.1, by have := HT7.out.2; omega⟩)
              clear h7 k7 z1 q1 x1 x4 z4 H5 HK5 H4 HK4 hW4 e1
              go_wp2
              go_roundw
              case rel => exact ⟨y + 1, T7, some ⟨gC, 0, none⟩, FA7, by omega, by go_num, ⟨_, _, _, _, _, H8.out⟩, HK8.out, HRT2.out, HB7.out⟩
              case measure => simp [intOf]; omega
    · obtain rfl : y = n := by omega
      rw [drop_range_all, trL] at hT
      go_wp2
      go_end0
      exact ⟨rfl, C1, FA1, hT ▸ hS, hK⟩
theorem runT_any (w0 : World) (M n : Nat) (SA : Option Addr) (sc : Nat) (a : List (List Int)) (lim : Nat) (budget : Int) (hq : Square a) (hn : n ≤ 10) (hlim : lim ≤ 100) (hb : budget ≤ 20000) : ∀ k, SubR w0 M n SA sc a lim budget k
  | 0 => fun w' s' cols' C' FA' hl hcb hsp hfl hsl hS => by
    rw [trS]
    exact runT_leaf w0 w' M n SA sc a lim budget s' cols' C' FA' hS (by omega) hn (by omega)
  | k + 1 => fun w' s' cols' C' FA' hl hcb hsp hfl hsl hS => runT_step w0 w' M n SA sc a lim budget k s' cols' C' FA' hq hl hcb hlim hb hsp hfl hsl hS (runT_any w0 M n SA sc a lim budget hq hn hlim hb k)
end Go.Proofs.Ytcnjlkabdfcjdaa
/- Transversals, the reference's TransversalsOf. No condition beyond those stated. -/
namespace Go.Proofs.Ytcnjlkabdfcjdaa
open Go.RowKit

set_option maxRecDepth 100000 in
set_option maxHeartbeats 4000000 in
theorem spec_TransversalsOf (A : Option Addr) (n c : Nat) (a : List (List Int)) (lim b : Int) (w : World) (ha : RR w A n a) (hn : n ≤ 1099511627776) (hr : cells a ≤ 1099511627776) :
    Calls Try.prog 10 #[.slice A n c, .int .i64 lim, .int .i64 b] w (RetTr w a lim b) := by
  have hval := l06Ok_any A n c a w ha (by omega)
  cases hc : tB (Square a) with
  | false =>
    rw [hc] at hval
    have HK := Lib.hid (show trK a lim b = 1 by rw [trK, hc]; rfl)
    go_enter Try.func10, Try.ntmps10
    go_wp2_with (go_at_call 38; refine hval.mono ?_; rintro e w2 ⟨rfl, hb2⟩)
    go_ret2
    exact RetTr.no hb2 HK.out (by decide)
  | true =>
    rw [hc] at hval
    have hq := tB_true.1 hc
    cases hi : inB b 1 20000 with
    | false =>
      have HK := Lib.hid (show trK a lim b = 2 by rw [trK, hc, hi]; rfl)
      go_enter Try.func10, Try.ntmps10
      go_wp2_with (first | (go_at_call 38; refine hval.mono ?_; rintro e w2 ⟨rfl, hb2⟩) | (go_at_call 39; refine (l09Budget_any _ _).mono ?_; rintro e w3 ⟨rfl, rfl⟩; rw [hi]))
      go_ret2
      exact RetTr.no hb2 HK.out (by decide)
    | true =>
      cases hj : inB lim 1 100 with
      | false =>
        have HK := Lib.hid (show trK a lim b = 2 by rw [trK, hc, hi, hj]; rfl)
        go_enter Try.func10, Try.ntmps10
        go_wp2_with (first | (go_at_call 38; refine hval.mono ?_; rintro e w2 ⟨rfl, hb2⟩) | (go_at_call 39; refine (l09Budget_any _ _).mono ?_; rintro e w3 ⟨rfl, rfl⟩; rw [hi]) | (go_at_call 40; refine (l00In_any _ _ _ _).mono ?_; rintro e w3 ⟨rfl, rfl⟩; rw [hj]))
        go_ret2
        exact RetTr.no hb2 HK.out (by decide)
      | true =>
        have hbb := inB_true hi
        have hll := inB_true hj
        obtain ⟨lim', rfl⟩ : ∃ l' : Nat, lim = (l' : Int) := ⟨lim.toNat, by omega⟩
        obtain ⟨b', rfl⟩ : ∃ l' : Nat, b = (l' : Int) := ⟨b.toNat, by omega⟩
        have hal := ha.len
        have hn10 : n ≤ 10 := by have := hq.2.1; omega
        have HK := Lib.hid (show trK a (lim' : Int) (b' : Int) = if (trR a lim' b').spent then 5 else 0 by rw [trK, hc, hi, hj]; rfl)
        go_enter Try.func10, Try.ntmps10
        go_wp2_with (first | (go_at_call 38; refine hval.mono ?_; rintro e w2 ⟨rfl, hb2⟩) | (go_at_call 39; refine (l09Budget_any _ _).mono ?_; rintro e w3 ⟨rfl, rfl⟩; rw [hi]) | (go_at_call 40; refine (l00In_any _ _ _ _).mono ?_; rintro e w3 ⟨rfl, rfl⟩; rw [hj]))
        have hsz := hb2.size
        obtain ⟨WB, hWB⟩ : ∃ WB, w2.alloc (.cells #[.slice A n c, .slice none 0 0, .slice none 0 0, .int .i64 lim', .int .i64 0, .int .i64 b', .bool false] 62) = WB := ⟨_, rfl⟩
        have hbB : Below w2.heap.size w2 WB := hWB ▸ below_alloc w2 _
        have hXB : Blk WB w2.heap.size 62 #[.slice A n c, .slice none 0 0, .slice none 0 0, .int .i64 lim', .int .i64 0, .int .i64 b', .bool false] := by
          rw [← hWB]; exact Blk.new w2 _ _
        have hsB : WB.heap.size = w2.heap.size + 1 := by rw [← hWB]; simp
        have hit : ISt w2 WB (w2.heap.size + 1) n A c a lim' none 0 0 none 0 0 ((b' : Int) - ((b' : Nat) : Int)) (b' : Int) false [] [] [] := by
          rw [show (b' : Int) - ((b' : Nat) : Int) = 0 by omega]
          exact ⟨hXB, hbB, ha.keep hb2, Nat.le_refl _, by omega, OI.nil_ _ _ _, ORv.nil_ _ _, fun j u h => by simp at h⟩
        have hse := runT_any w2 (w2.heap.size + 1) n A c a lim' (b' : Int) hq hn10 (by omega) (by omega) n WB ⟨b', false, []⟩ [] none none (by simp) (fun i h => absurd h (by simp)) rfl (by simp only [List.length_nil]; omega) (by dsimp only; omega) ⟨0, 0, 0, 0, [], hit⟩
        rw [show trS a lim' n [] ⟨b', false, []⟩ = trR a lim' b' by rw [trR, hal]] at hse
        rw [hWB]
        clear hval hWB hbB hXB hsB hit hbb hll
        refine hse.mono ?_
        rintro e w3 ⟨rfl, C3, F3, ⟨m3, mc3, fn3, fk3, vs3, h3⟩, k3⟩
        obtain ⟨⟨-, -, x2, -⟩, -, -, x6⟩ := h3.cells
        have hB3 : Below w.heap.size w w3 := hb2.trans (h3.b.mono hsz)
        have HR3 := Lib.hid (h3.r.more (show w.heap.size ≤ w2.heap.size + 1 by omega))
        clear h3 k3 hse
        cases hsp : (trR a lim' b').spent with
        | true =>
          rw [hsp] at x6
          have HK2 := Lib.hid (show trK a (lim' : Int) (b' : Int) = 5 by rw [HK.out, if_pos hsp])
          go_wp2
          go_ret2
          exact RetTr.no hB3 HK2.out (by decide)
        | false =>
          rw [hsp] at x6
          have HK2 := Lib.hid (show trK a (lim' : Int) (b' : Int) = 0 by rw [HK.out, if_neg (by rw [hsp]; decide)])
          go_wp2
          go_ret2
          refine ⟨hB3, F3, fn3, fk3, vs3, by rw [HK2.out]; rfl, ?_⟩
          rw [trF, if_pos HK2.out]
          exact HR3.out
end Go.Proofs.Ytcnjlkabdfcjdaa
/- Transversals: whether columns are one; two lists compared. No condition beyond those stated. -/
namespace Go.Proofs.Ytcnjlkabdfcjdaa
open Go.RowKit

set_option maxHeartbeats 400000 in
theorem compareListsT_any (A B : Option Addr) (n m c d : Nat) (xs ys : List Int) (w : World) (ha : RI w A n xs) (hb : RI w B m ys) (hn : n ≤ 9223372036854775807) (hm : m ≤ 9223372036854775807) :
    Calls Try.prog 12 #[.slice A n c, .slice B m d] w (fun e w' => e = .returned (.int .i64 (cmpL xs ys)) ∧ w = w') := by
  have hbd := cmpL_bd xs ys
  go_enter Try.func12, Try.ntmps12
  go_wp2_with fail
  refine (slicesCompare_any A B n m c d xs ys w ha hb hn hm).mono ?_
  rintro e w' ⟨rfl, rfl⟩
  go_wp2
  go_ret
  exact ⟨rfl, rfl⟩
set_option maxRecDepth 100000 in
set_option maxHeartbeats 4000000 in
theorem isTransversal_any (A : Option Addr) (n c : Nat) (a : List (List Int)) (B : Option Addr) (m d : Nat) (cols : List Int) (w : World) (ha : RR w A n a) (hb : RI w B m cols) (hq : Square a) (hm : m ≤ 1099511627776) :
    Calls Try.prog 42 #[.slice A n c, .slice B m d] w (RetB w (tB (TransOk a cols))) := by
  have hal := ha.len
  have hbl := hb.len
  have hn10 : n ≤ 10 := by have := hq.2.1; omega
  by_cases h1 : m = n
  · subst h1
    cases hp : tB (PermOk cols) with
    | false =>
      have HF := Lib.hid (show tB (TransOk a cols) = false from tB_no fun h => absurd hp (by rw [tB_yes h.2.1]; decide))
      go_enter Try.func42, Try.ntmps42
      go_wp2_with (go_at_call 50; refine (validPermutation_any B m d cols _ hb (by omega)).mono ?_; rintro e w1 ⟨rfl, hb1⟩; rw [hp])
      go_ret
      exact ⟨by rw [HF.out]; rfl, hb1⟩
    | true =>
      have hpo := tB_true.1 hp
      have hsl := symT_len a cols
      have HN := Lib.hid (fun x (hx : x < m) => (show ∃ u : Nat, nth cols x = (u : Int) ∧ u < m by
        have := hpo.2.bd x (by omega)
        exact ⟨(nth cols x).toNat, by omega, by omega⟩))
      have HSQ := Lib.hid (fun x (hx : x < m) => (show (row a x).length = m by have := (hq.2.2.1 x (by omega)).1; omega))
      have HT := Lib.hid (show tB (TransOk a cols) = tB (PermOk (symT a cols)) by
        cases h : tB (PermOk (symT a cols)) with
        | true => exact tB_yes ⟨by omega, hpo, tB_true.1 h⟩
        | false => exact tB_no fun e => absurd h (by rw [tB_yes e.2.2]; decide))
      have HSN := Lib.hid (fun x (hx : x < m) => (symT_nth (a := a) (c := cols) (i := x) (by omega)))
      have HL := Lib.hid (show (symT a cols).length = m by omega)
      clear hpo hsl hq
      generalize symT a cols = sy at *
      go_enter Try.func42, Try.ntmps42
      go_wp2_with fail
      refine (validPermutation_any B m d cols _ hb (by omega)).mono ?_
      rintro e w1 ⟨rfl, hb1⟩
      rw [hp]
      clear hp
      have ha1 := ha.keep hb1
      have hB1 := hb.keep hb1
      go_wp2
      go_loopw [5, 6, 7, 20] (fun l _ _ i wr => ∃ (k : Nat) (A' : Option Addr) (c' : Nat), k ≤ m ∧ i = .int .i64 k ∧ l = .slice A' k c' ∧ OI wr w1.heap.size 2 A' k c' (sy.take k) ∧ Below w1.heap.size w1 wr) (fun _ _ _ i _ => m - (intOf i).toNat)
      case atStart => exact ⟨0, none, 0, Nat.zero_le _, rfl, rfl, OI.nil_ _ _ _, Below.refl _ _⟩
      case round =>
        obtain ⟨k, A', c', hk, rfl, rfl, ho, hw⟩ := hrel
        by_cases hlt : k < m
        · obtain ⟨u, hu, hum⟩ := HN.out k hlt
          obtain ⟨ca, rfl, hcx, -⟩ := (hB1.keep hw).get hlt
          rw [hu] at hcx
          obtain ⟨ad, RX, rn, rc, rfl, hcr, -, -, hRX⟩ := (ha1.keep hw).get hlt
          have hrl := hRX.len
          obtain rfl : rn = m := by have := HSQ.out k hlt; omega
          obtain ⟨rx, rfl, hcz, hz64⟩ := hRX.get hum
          have hsy := HSN.out k hlt
          rw [hu, Int.toNat_natCast] at hsy
          have HS := Lib.hid (show sy.take k ++ [nth (row a k) u] = sy.take (k + 1) by
            rw [List.take_succ_eq_append_getElem (by have := HL.out; omega), ← hsy, nth_get (by have := HL.out; omega)])
          have H := Lib.hid ho
          have HW := Lib.hid hw
          clear hRX hrl hsy hu ho hw
          generalize nth (row a k) u = z at *
          have hsz := HW.out.size
          go_wp2_with (at_builtin; refine app_int _ rfl (.tmp 25) (.tmp 33) rfl w1.heap.size A' k c' (sy.take k) rfl H.out z wr.heap.size rfl rfl hz64 (by omega) hsz ?_; intro A5 c5 w5 ho5 hg5 hf5; rw [HS.out] at ho5; have hb5 := below_own HW.out hg5 hsz (fun b hb => (H.out.os.lt hb).1))
          go_roundw
          case rel => exact ⟨k + 1, A5, c5, by omega, by go_num, rfl, ho5, hb5⟩
          case measure => simp [intOf]; omega
        · obtain rfl : k = m := by omega
          rw [List.take_of_length_le (by rw [HL.out]; exact Nat.le_refl _)] at ho
          go_wp2_with (go_at_call 50; refine (validPermutation_any A' k c' sy _ ho.reads (by omega)).mono ?_; rintro e w2 ⟨rfl, hb2⟩)
          go_ret
          exact ⟨by rw [HT.out]; rfl, (hb1.trans (hw.mono hb1.size)).trans (hb2.mono (hb1.trans (hw.mono hb1.size)).size)⟩
  · have HF := Lib.hid (show tB (TransOk a cols) = false from tB_no fun h => by have := h.1; omega)
    have h1b : ((m : Int) == (n : Int)) = false := by simp; omega
    go_enter Try.func42, Try.ntmps42
    go_wp2
    go_ret
    exact ⟨by rw [HF.out]; rfl, Below.refl _ _⟩
set_option maxHeartbeats 1000000 in
theorem IsTransversal_any (A : Option Addr) (n c : Nat) (a : List (List Int)) (B : Option Addr) (m d : Nat) (cols : List Int) (w : World) (ha : RR w A n a) (hb : RI w B m cols) (hn : n ≤ 1099511627776) (hr : cells a ≤ 1099511627776) (hm : m ≤ 1099511627776) :
    Calls Try.prog 11 #[.slice A n c, .slice B m d] w (RetB w (tB (Square a ∧ TransOk a cols))) := by
  have hval := validSquare_any A n c a w ha hn hr
  cases hc : tB (Square a) with
  | false =>
    rw [hc] at hval
    have HF := Lib.hid (show tB (Square a ∧ TransOk a cols) = false from tB_no fun h => absurd hc (by rw [tB_yes h.1]; decide))
    go_enter Try.func11, Try.ntmps11
    go_wp2_with (go_at_call 18; refine hval.mono ?_; rintro e w2 ⟨rfl, hb2⟩)
    go_ret
    exact ⟨by rw [HF.out]; rfl, hb2⟩
  | true =>
    rw [hc] at hval
    have hq := tB_true.1 hc
    have HF := Lib.hid (show tB (Square a ∧ TransOk a cols) = tB (TransOk a cols) by
      cases h : tB (TransOk a cols) with
      | true => exact tB_yes ⟨hq, tB_true.1 h⟩
      | false => exact tB_no fun e => absurd h (by rw [tB_yes e.2]; decide))
    go_enter Try.func11, Try.ntmps11
    go_wp2_with (first | (go_at_call 18; refine hval.mono ?_; rintro e w2 ⟨rfl, hb2⟩) | (go_at_call 42; refine (isTransversal_any A n _ a B m _ cols w2 (ha.keep hb2) (hb.keep hb2) hq hm).mono ?_; rintro e w3 ⟨rfl, hb3⟩))
    go_ret
    exact ⟨by rw [HF.out]; rfl, hb2.trans (hb3.mono hb2.size)⟩
end Go.Proofs.Ytcnjlkabdfcjdaa
