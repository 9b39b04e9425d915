/- Covers, the program's search, a node that is visited. No condition beyond those stated. -/
import Derived.Test.YtdcoppighkbofaaIB
import Derived.Test.YtdcoppighkbofaaIA
set_option linter.unusedVariables false
set_option linter.unusedSimpArgs false
namespace Go.Proofs.Ytdcoppighkbofaa
open Go.RowKit

set_option maxRecDepth 100000 in
set_option maxHeartbeats 8000000 in
theorem searchI_step (w0 w : World) (M v : Nat) (OA : Option Addr) (on oc : Nat) (os : List (List Int)) (WA : Option Addr) (wk : Nat) (first : Bool) (budget : Int) (s : Cst) (ch : List Nat) (C FA : Option Addr) (sub : Cst → List Nat → Cst)
    (hS : SIc w0 w M v OA on oc os WA wk first budget s ch C FA) (hC : Cover (v : Int) os) (hch : Chosen os ch) (hst : stopC first s = false) (hb : budget ≤ 20000) (hl : (s.left : Int) ≤ budget) (hf : s.found.length + s.left ≤ 20000)
    (hsub : ∀ (w' : World) (s' : Cst) (ch' : List Nat) (C' FA' : Option Addr), s'.left < s.left → Chosen os ch' → s'.found.length + s'.left ≤ 20000 → SIc w0 w' M v OA on oc os WA wk first budget s' ch' C' FA' → Calls Try.prog 35 #[.pointer (some ⟨w0.heap.size + 1, 0, none⟩)] w' (RetJ w0 w' M v OA on oc os WA wk first budget (sub s' ch') ch' C' FA'))
    (hle : ∀ s' ch', CLe s' (sub s' ch')) :
    Calls Try.prog 35 #[.pointer (some ⟨w0.heap.size + 1, 0, none⟩)] w (RetJ w0 w M v OA on oc os WA wk first budget (visP os v sub s ch) ch C FA) := by
  obtain ⟨m, mc, fn, fk, vs, h⟩ := hS
  have hsp : s.spent = false := by
    unfold stopC at hst
    rw [Bool.or_eq_false_iff] at hst
    exact hst.1
  have hfn := h.r.slen
  have hff : first = false ∨ ¬ (fn : Int) > 0 := by
    unfold stopC at hst
    rw [hsp] at hst
    cases first with
    | false => exact .inl rfl
    | true =>
      simp at hst
      rw [hst] at hfn
      simp at hfn
      exact .inr (by omega)
  obtain ⟨nd, hnd⟩ : ∃ nd : Int, budget - (s.left : Int) = nd := ⟨_, rfl⟩
  rw [hnd, hsp] at h
  have hnd0 : 0 ≤ nd := by omega
  have hnd1 : nd ≤ 20000 := by omega
  have hos := h.o0.len
  have hon : on ≤ 256 := by have := hC.len; omega
  have hv : v ≤ 64 := by have := hC.v2; omega
  have hl1 : s.left ≤ 20000 := by omega
  obtain ⟨⟨x0, x1, -, -⟩, -, x5, -, -, -, x9⟩ := h.cells
  have z0 := h.x.frozen 0
  have z1 := h.x.frozen 1
  have hnode := nodeC_any w (w0.heap.size + 1) s.left false x0 x1 z0 z1 (by omega)
  have hM := h.M2
  have HM := Lib.hid hM
  have HND := Lib.hid hnd
  have HL := Lib.hid hl
  have HF := Lib.hid hf
  have HSP := Lib.hid hsp
  have HC := Lib.hid hC
  have HCH := Lib.hid hch
  have HOS := Lib.hid hos
  have HSUB := Lib.hid hsub
  have HLE := Lib.hid hle
  by_cases h0 : s.left = 0
  · have h1 := h.spent_ true
    rw [if_pos h0, show decide (s.left ≠ 0) = false by simp [h0]] at hnode
    have HF1 := Lib.hid (show RetJ w0 w M v OA on oc os WA wk first budget (visP os v sub s ch) ch C FA (.returned (.tuple #[])) (w.setCell ⟨w0.heap.size + 1, 1, none⟩ (.bool true)) by
      rw [visP, if_pos h0]
      refine ⟨rfl, C, FA, ⟨m, mc, fn, fk, vs, ?_⟩, Kc.set (by show w0.heap.size + 1 < M; omega) _⟩
      show ICv w0 _ M v OA on oc os WA wk C m mc FA fn fk (s.left : Nat) (budget - s.left) true first _ ch vs s.found
      rw [hnd]
      exact h1)
    clear h h1 hnd hl hC hch hst hf hsub hle hos hsp hfn h0 z0 z1
    rcases hff with rfl | hff
    · go_enter Try.func35, Try.ntmps35
      go_wp2_with (go_at_call 46; refine hnode.mono ?_; rintro e w1 ⟨rfl, rfl⟩)
      refine bodyPost_ret (results_none rfl _ _ _) rfl ?_
      exact HF1.out
    · cases first <;> (
        go_enter Try.func35, Try.ntmps35
        go_wp2_with (go_at_call 46; refine hnode.mono ?_; rintro e w1 ⟨rfl, rfl⟩)
        refine bodyPost_ret (results_none rfl _ _ _) rfl ?_
        exact HF1.out)
  · rw [if_neg h0, show decide (s.left ≠ 0) = true by simp [h0]] at hnode
    have h1 := h.left_ ((s.left : Int) - 1)
    have k1 : Kc M w (w.setCell ⟨w0.heap.size + 1, 0, none⟩ (.int .i64 ((s.left : Int) - 1))) C C FA FA := Kc.set (by show w0.heap.size + 1 < M; omega) _
    obtain ⟨W1, hW1⟩ : ∃ W1, w.setCell ⟨w0.heap.size + 1, 0, none⟩ (.int .i64 ((s.left : Int) - 1)) = W1 := ⟨_, rfl⟩
    rw [hW1] at h1 k1 hnode
    have h2 := h1.nodes_ (nd + 1)
    have k2 := k1.trans (Kc.set (C := C) (FA := FA) (p := ⟨w0.heap.size + 1, 8, none⟩) (by show w0.heap.size + 1 < M; omega) (.int .i64 (nd + 1)))
    obtain ⟨W2, hW2⟩ : ∃ W2, W1.setCell ⟨w0.heap.size + 1, 8, none⟩ (.int .i64 (nd + 1)) = W2 := ⟨_, rfl⟩
    rw [hW2] at h2 k2
    have w8 := h1.cells.2.2.2.2.2.1
    have z8 := h1.x.frozen 8
    obtain ⟨⟨-, -, -, y3⟩, y4, -, y6, y7, -, y9⟩ := h2.cells
    have hct := containsB_any w0.heap.size w0.heap.size v v (fun x => covB os ch (x : Nat)) false W2 h2.d
    rw [cov_all] at hct
    have e1 : budget - (((s.left - 1 : Nat) : Int)) = nd + 1 := by omega
    have e2 : (((s.left - 1 : Nat)) : Int) = (s.left : Int) - 1 := by omega
    cases hbt : bestTo os ch v with
    | none =>
      rw [hbt] at hct
      have HP := Lib.hid (show visP os v sub s ch = { s with left := s.left - 1, found := s.found ++ [setG sgnI (intsN ch)] } by rw [visP, if_neg h0, hbt]; rfl)
      have hml := h2.c.len
      rw [intsN_len] at hml
      have hmb : m ≤ 256 := by have := hch.len; omega
      have hchl : ch.length ≤ 256 := by omega
      have hcl := clone_any C m mc (intsN ch) W2 h2.c.reads (by omega)
      have H2 := Lib.hid h2
      have K2 := Lib.hid k2
      have HSR := Lib.hid (srt_set (intsN_nodup hch.nd))
      have E1 := Lib.hid e1
      have E2 := Lib.hid e2
      have HSZ := Lib.hid h2.M3
      have hfb : fn ≤ 20000 := by omega
      clear h h1 h2 k1 k2 hnd hl hC hch hst hf hsub hle hos hsp hfn z0 z1 hbt e1 e2 hml
      have hff2 : first = true → ¬ (fn : Int) > 0 := fun e => hff.resolve_left (by rw [e]; simp)
      clear hff
      cases first <;> (try rw [show fn = 0 by have := hff2 rfl; omega] at x9) <;> clear hff2 <;> (
        go_enter Try.func35, Try.ntmps35
        go_wp2_with (first | (go_at_call 46; refine hnode.mono ?_; rintro e w1 ⟨rfl, rfl⟩) | (go_at_call 47; refine hct.mono ?_; rintro e w3 ⟨rfl, rfl⟩) | (go_at_call 48; refine hcl.mono ?_; rintro e w3 ⟨A3, n3, c3, rfl, ho3, hb3⟩; have hn3 := ho3.len; rw [intsN_len] at hn3))
        refine (sort_any _ _ A3 n3 c3 _ _ ho3 (by omega)).mono ?_
        rintro e w4 ⟨rfl, ho4, hg4⟩
        have hb4 := below_own hb3 hg4 hb3.size (fun k hk => (ho3.os.lt hk).1)
        rw [HSR.out] at ho4
        have h4 := H2.out.below hb4
        have hnew : ∀ k, blk A3 = some k → W2.heap.size ≤ k := fun k hk => (ho4.os.lt hk).1
        have hap := H2.out.r.apart_new (v := (A3, n3, c3)) hnew
        have hC4 : blk A3 = none ∨ blk A3 ≠ blk C := by
          by_cases hz : blk A3 = none
          · exact .inl hz
          · exact .inr fun e => by
              obtain ⟨k, hk⟩ := Option.ne_none_iff_exists'.1 hz
              have h7 := hnew k hk
              have h8 := (H2.out.c.os.lt (e.symm.trans hk)).2
              omega
        have ho5 := ho4.more HSZ.out
        have w9 := h4.cells.2.2.2.2.2.2
        have H4 := Lib.hid h4
        have HAP := Lib.hid hap
        have HC4 := Lib.hid hC4
        have HK4 := Lib.hid (K2.out.trans (Kc.of_below (C := C) (FA := FA) hb4))
        clear h4 hap hC4 hnew ho4 hg4 hb4 ho3 hb3 hct hcl hnode
        go_wp2_with (at_builtin; refine app_row _ rfl (.tmp 55) (.tmp 57) rfl M FA fn fk vs s.found rfl H4.out.r (A3, n3, c3) (setG sgnI (intsN ch)) ho5 HAP.out w4.heap.size rfl rfl (Nat.le_trans (Nat.succ_le_succ hfb) (by decide)) H4.out.M3 ?_; intro A6 c6 w6 ho6 hg6 hf6; have hX6 := (H4.out.grow hg6 (fun k hk => H4.out.r.os.lt hk)).1; have z9 := hX6.frozen 9; have q9 := hX6.cell 9)
        have H6 := Lib.hid (H4.out.more hg6 ho6 HC4.out)
        have HK6 := Lib.hid ((HK4.out.trans (Kc.grownF (C := C) hg6 hf6)).trans (Kc.set (C := C) (FA := A6) (p := ⟨w0.heap.size + 1, 9, none⟩) (by show w0.heap.size + 1 < M; omega) (.slice A6 (fn + 1) c6)))
        refine bodyPost_ret (results_none rfl _ _ _) rfl ?_
        rw [HP.out]
        refine ⟨rfl, C, A6, ⟨m, mc, fn + 1, c6, vs ++ [(A3, n3, c3)], ?_⟩, HK6.out⟩
        dsimp only
        rw [HSP.out, E1.out, E2.out]
        exact H6.out)
    | some x =>
      rw [hbt] at hct
      have HP := Lib.hid (show visP os v sub s ch = (choP os ch v).foldl (fun s k => sub s (ch ++ [k])) { s with left := s.left - 1 } by rw [visP, if_neg h0, hbt]; rfl)
      have hcho := choices_any h2 hC
      have hstart : SIc w0 W2 M v OA on oc os WA wk first budget { s with left := s.left - 1 } ch C FA := by
        refine ⟨m, mc, fn, fk, vs, ?_⟩
        dsimp only
        rw [hsp, e1, e2]
        exact h2
      have HST := Lib.hid hstart
      have K2 := Lib.hid k2
      have HSZ := Lib.hid h2.M3
      have H2c := Lib.hid h2.c
      have hff2 : first = true → ¬ (fn : Int) > 0 := fun e => hff.resolve_left (by rw [e]; simp)
      generalize hG : (fun (s : Cst) (k : Nat) => sub s (ch ++ [k])) = G at *
      have hclen := cho_le os ch v
      have hcat := Lib.hid (fun k (hk : k < (choP os ch v).length) => cho_at hk)
      generalize choP os ch v = cho at *
      have hslen : s.left ≠ 0 := h0
      clear hff h h1 h2 k1 k2 hnd hl hC hch hst hf hsub hle hsp hfn z0 z1 hbt e1 e2 hstart h0
      have hcase : first = false ∨ (first = true ∧ fn = 0) := by
        cases first with
        | false => exact .inl rfl
        | true => exact .inr ⟨rfl, by have := hff2 rfl; omega⟩
      clear hff2
      rcases hcase with hv1 | ⟨hv1, hv2⟩ <;> rw [hv1] at x5 <;> (try rw [hv2] at x9) <;> (try clear hv2) <;> clear hv1 <;> (
        go_enter Try.func35, Try.ntmps35
        go_wp2_with (first | (go_at_call 46; refine hnode.mono ?_; rintro e w1 ⟨rfl, rfl⟩) | (go_at_call 47; refine hct.mono ?_; rintro e w3 ⟨rfl, rfl⟩))
        refine hcho.mono ?_
        rintro e w3 ⟨T, tn, tc, rfl, hT, hb3⟩
        have htn := hT.len
        rw [intsN_len] at htn
        have hT3 := hT.more HSZ.out
        have hap3 : blk T = none ∨ blk T ≠ blk C := by
          by_cases hz : blk T = none
          · exact .inl hz
          · exact .inr fun e => by
              obtain ⟨k, hk⟩ := Option.ne_none_iff_exists'.1 hz
              have h7 := (hT.os.lt hk).1
              have h8 := (H2c.out.os.lt (e.symm.trans hk)).2
              omega
        obtain ⟨m3, mc3, fn3, fk3, vs3, h3⟩ := HST.out
        have S3 : SIc w0 w3 M v OA on oc os WA wk first budget { s with left := s.left - 1 } ch C FA := ⟨m3, mc3, fn3, fk3, vs3, h3.below hb3⟩
        have K3 := K2.out.trans (Kc.of_below (C := C) (FA := FA) hb3)
        clear hT h3 hb3 hcho hct hnode x0 x1 x5 x9 y3 y4 y6 y7 y9 w8 z8 hW1 hW2
        have HCLE := Lib.hid (CLe.refl { s with left := s.left - 1 })
        go_wp2
        go_loopw [64] (fun i wr => ∃ (k : Nat) (t : Cst) (C' FA' : Option Addr), k ≤ tn ∧ i = .int .i64 k ∧ SIc w0 wr M v OA on oc os WA wk first budget t ch C' FA' ∧ Kc M w wr C C' FA FA' ∧ OI wr M 2 T tn tc (intsN cho) ∧ (blk T = none ∨ blk T ≠ blk C') ∧ t = (cho.take k).foldl G { s with left := s.left - 1 } ∧ CLe { s with left := s.left - 1 } t) (fun i _ => tn - (intOf i).toNat)
        case atStart => exact ⟨0, _, C, FA, Nat.zero_le _, rfl, S3, K3, hT3, hap3, rfl, HCLE.out⟩
        case round =>
          clear S3 K3 hT3 hap3 HCLE m3 mc3 fn3 fk3 vs3
          obtain ⟨k, t, C1, FA1, hk, rfl, hS, hK, hT, hap, ht, hcl⟩ := hrel
          by_cases hlt : k < tn
          · obtain ⟨q, hq, hqo, hop, xx, hxx⟩ := hcat.out k (by omega)
            have HT := Lib.hid (show G t q = (cho.take (k + 1)).foldl G { s with left := s.left - 1 } by
              obtain ⟨hl2, he2⟩ := List.getElem?_eq_some_iff.1 hq
              rw [List.take_succ_eq_append_getElem hl2, List.foldl_append, ← ht, he2]
              rfl)
            have hqon : q < on := by omega
            have HOP := Lib.hid hop
            have HCH2 := Lib.hid (HCH.out.snoc hqo hxx hop)
            have hleft : t.left < s.left := by have := hcl.left; dsimp only at this; omega
            have hfl : t.found.length + t.left ≤ 20000 := by have h7 := hcl.found; have := HF.out; dsimp only at h7; omega
            have HFL := Lib.hid (And.intro hleft hfl)
            have HCL := Lib.hid (show CLe { s with left := s.left - 1 } (G t q) by rw [← hG]; exact hcl.trans (HLE.out _ _))
            obtain ⟨m1, mc1, fn1, fk1, vs1, h1⟩ := hS
            obtain ⟨gT, rfl, cT, -, -⟩ := hT.cell hlt
            rw [intsN_nth hq] at cT
            have hmk := markI_any h1 HC.out q hqon true
            rw [mark_covI] at hmk
            have hml := h1.c.len
            rw [intsN_len] at hml
            have hmb : m1 ≤ 256 := by have := HCH.out.len; omega
            have hqi : I64 (q : Int) := by unfold I64; omega
            have HAP := Lib.hid hap
            have HTT := Lib.hid hT
            have HTF := Lib.hid (OS.typed hT.os h1.r.os (by decide))
            clear ht hcl hq hop hxx h1 hleft hfl hml hap hT
            go_wp2_with fail
            refine hmk.mono ?_
            rintro e w4 ⟨rfl, h4, k4⟩
            obtain ⟨-, -, -, -, y7, -, -⟩ := h4.cells
            have H4 := Lib.hid h4
            have HM3 := Lib.hid h4.M3
            clear hmk h4
            go_wp2_with (at_builtin; refine app_int _ rfl (.tmp 75) (.tmp 77) rfl M C1 m1 mc1 (intsN ch) rfl H4.out.c (q : Int) w4.heap.size rfl rfl hqi (Nat.le_trans (Nat.succ_le_succ hmb) (by decide)) HM3.out ?_; intro C5 c5 w5 ho5 hg5 hf5; have hX5 := (H4.out.grow hg5 (fun k hk => H4.out.c.os.lt hk)).1; have z7 := hX5.frozen 7; have q7 := hX5.cell 7; have H5 := Lib.hid (H4.out.push (ch' := ch ++ [q]) hg5 (by rw [intsN_snoc]; exact ho5) hf5); have HK5 := Lib.hid ((hK.trans (k4.trans (Kc.grownC (FA := FA1) hg5 hf5))).trans (Kc.set (C := C5) (FA := FA1) (p := ⟨w0.heap.size + 1, 7, none⟩) (by show w0.heap.size + 1 < M; omega) (.slice C5 (m1 + 1) c5))); have HKT := Lib.hid ((k4.trans (Kc.grownC (FA := FA1) hg5 hf5)).trans (Kc.set (C := C5) (FA := FA1) (p := ⟨w0.heap.size + 1, 7, none⟩) (by show w0.heap.size + 1 < M; omega) (.slice C5 (m1 + 1) c5))); clear hX5 ho5 hg5 hf5)
            refine (HSUB.out _ t (ch ++ [q]) C5 FA1 HFL.out.1 HCH2.out HFL.out.2 ⟨_, _, _, _, _, H5.out⟩).mono ?_
            rintro e w7 ⟨rfl, C7, FA7, ⟨m7, mc7, fn7, fk7, vs7, h7⟩, k7⟩
            clear z7 q7 y7 H4 HM3 k4 hK
            obtain ⟨m6, rfl⟩ : ∃ m6, m7 = m6 + 1 := by
              have := h7.c.len
              exact ⟨ch.length, by simp [intsN] at this; omega⟩
            obtain ⟨gC, rfl, hgC, hgC'⟩ := h7.c.os.form (Nat.succ_pos _)
            have hcap := h7.c.os.cap
            obtain ⟨-, -, -, -, y7, -, -⟩ := h7.cells
            have z7 := h7.x.frozen 7
            have hp8 := h7.pop
            have HK7 := Lib.hid (HK5.out.trans k7)
            have HKT7 := Lib.hid (HKT.out.trans k7)
            clear h7 k7 HK5 HKT H5
            obtain ⟨W8, hW8⟩ : ∃ W8, w7.setCell ⟨w0.heap.size + 1, 7, none⟩ (.slice (some ⟨gC, 0, none⟩) m6 mc7) = W8 := ⟨_, rfl⟩
            rw [hW8] at hp8
            have hW9 : w7.drew.setCell ⟨w0.heap.size + 1, 7, none⟩ (.slice (some ⟨gC, 0, none⟩) m6 mc7) = W8.drew := by rw [← hW8]; rfl
            have hks : Kc M w7 W8 (some ⟨gC, 0, none⟩) (some ⟨gC, 0, none⟩) FA7 FA7 := hW8 ▸ Kc.set (by show w0.heap.size + 1 < M; omega) _
            have hdr : Below W8.heap.size W8 W8.drew := by have := below_drewn W8 1; rwa [← World.drew_is_drewN] at this
            have hmk2 := markI_any (hp8.below hdr) HC.out q hqon false
            rw [unmark_covI HOP.out] at hmk2
            have HK8 := Lib.hid (hks.trans (Kc.of_below (C := some ⟨gC, 0, none⟩) (FA := FA7) hdr))
            clear hp8 hks hdr hW8
            go_wp2
            refine region_lastC (P := Try.prog) (S := fun w' => w'.cell? ⟨w0.heap.size + 1, 7, none⟩ = some (.slice (some ⟨gC, 0, none⟩) (m6 + 1) mc7)) (by kernel_rfl) (by simp only [List.getLast?_cons_cons, List.getLast?_singleton]; rfl) (by dsimp only [List.dropLast]) (by kernel_rfl) (by simpa using y7) ?_
            intro hS
            refine wpAnyH_take (i := 0) (v := ?_) rfl (by kernel_rfl) (by kernel_rfl) (by kernel_rfl) (fun _ _ _ h => h) (Or.inl ⟨by rfl, ?_⟩) (by assumption) ?_
            rotate_left
            · (intro w hSw; (try dsimp only at hSw); go_simp; (try with_reducible rfl))
            simp only [Act.put, List.setIfInBounds_toArray, List.set_cons_zero, List.set_cons_succ]
            refine wpAnyH_take (i := 1) (v := ?_) rfl (by kernel_rfl) (by kernel_rfl) (by kernel_rfl) (fun _ _ _ h => h) (Or.inl ⟨by rfl, ?_⟩) (by assumption) ?_
            rotate_left
            · (intro w hSw; (try dsimp only at hSw); go_simp; (try with_reducible rfl))
            simp only [Act.put, List.setIfInBounds_toArray, List.set_cons_zero, List.set_cons_succ]
            refine wpAnyH_take (i := 2) (v := ?_) rfl (by kernel_rfl) (by kernel_rfl) (by kernel_rfl) (fun _ _ _ h => h) (Or.inl ⟨by rfl, ?_⟩) (by assumption) ?_
            rotate_left
            · (intro w hSw; (try dsimp only at hSw); go_simp; (try with_reducible rfl))
            simp only [Act.put, List.setIfInBounds_toArray, List.set_cons_zero, List.set_cons_succ]
            refine wpAnyH_take (i := 3) (v := ?_) rfl (by kernel_rfl) (by kernel_rfl) (by kernel_rfl) (fun _ _ _ h => h) (Or.inl ⟨by rfl, ?_⟩) (by assumption) ?_
            rotate_left
            · (intro w hSw; (try dsimp only at hSw); go_simp; (try with_reducible rfl))
            simp only [Act.put, List.setIfInBounds_toArray, List.set_cons_zero, List.set_cons_succ]
            refine wpAnyH_take (i := 4) (v := ?_) rfl (by kernel_rfl) (by kernel_rfl) (by kernel_rfl) (fun _ _ _ h => h) (Or.inl ⟨by rfl, ?_⟩) (by assumption) ?_
            rotate_left
            · (intro w hSw; (try dsimp only at hSw); go_simp; (try with_reducible rfl))
            simp only [Act.put, List.setIfInBounds_toArray, List.set_cons_zero, List.set_cons_succ]
            refine wpAnyH_take (i := 5) (v := ?_) rfl (by kernel_rfl) (by kernel_rfl) (by kernel_rfl) (fun _ _ _ h => h) (Or.inl ⟨by rfl, ?_⟩) (by assumption) ?_
            rotate_left
            · (intro w hSw; (try dsimp only at hSw); go_simp; (try with_reducible rfl))
            simp only [Act.put, List.setIfInBounds_toArray, List.set_cons_zero, List.set_cons_succ]
            refine wpAnyH_take (i := 6) (v := ?_) rfl (by kernel_rfl) (by kernel_rfl) (by kernel_rfl) (fun _ _ _ h => h) (Or.inl ⟨by rfl, ?_⟩) (by assumption) ?_
            rotate_left
            · (intro w hSw; (try dsimp only at hSw); go_simp; (try with_reducible rfl))
            simp only [Act.put, List.setIfInBounds_toArray, List.set_cons_zero, List.set_cons_succ]
            refine wpAnyH_take (i := 7) (v := ?_) rfl (by kernel_rfl) (by kernel_rfl) (by kernel_rfl) (fun _ _ _ h => h) (Or.inl ⟨by rfl, ?_⟩) (by assumption) ?_
            rotate_left
            · (intro w hSw; (try dsimp only at hSw); go_simp; (try with_reducible rfl))
            simp only [Act.put, List.setIfInBounds_toArray, List.set_cons_zero, List.set_cons_succ]
            refine wpAnyH_take (i := 8) (v := ?_) rfl (by kernel_rfl) (by kernel_rfl) (by kernel_rfl) (fun _ _ _ h => h) (Or.inl ⟨by rfl, ?_⟩) (by assumption) ?_
            rotate_left
            · (intro w hSw; (try dsimp only at hSw); go_simp; (try with_reducible rfl))
            simp only [Act.put, List.setIfInBounds_toArray, List.set_cons_zero, List.set_cons_succ]
            refine wpAnyH_take (i := 9) (v := ?_) rfl (by kernel_rfl) (by kernel_rfl) (by kernel_rfl) (fun _ _ _ h => h) (Or.inl ⟨by rfl, ?_⟩) (by assumption) ?_
            rotate_left
            · (intro w hSw; (try dsimp only at hSw); go_simp; (try with_reducible rfl))
            simp only [Act.put, List.setIfInBounds_toArray, List.set_cons_zero, List.set_cons_succ]
            refine wpAnyH_take (i := 10) (v := ?_) rfl (by kernel_rfl) (by kernel_rfl) (by kernel_rfl) (fun _ _ _ h => h) (Or.inl ⟨by rfl, ?_⟩) (by assumption) ?_
            rotate_left
            · (intro w hSw; (try dsimp only at hSw); go_simp; (try with_reducible rfl))
            simp only [Act.put, List.setIfInBounds_toArray, List.set_cons_zero, List.set_cons_succ]
            refine wpAnyH_ready (rs := [11]) (by kernel_rfl) (by simp) ?_
            refine AllReadyH.cons rfl (fun K hK => ?_) AllReadyH.nil
            go_simp
            rw [show IntKind.i64.wrap (m6 : Int) = (m6 : Int) by (rw [IntKind.wrap_i64]; omega), if_pos ⟨by omega, by omega⟩, Int.toNat_natCast]
            go_simp
            refine hK.out _ _ hS (fun hS1 => ?_)
            clear hK K hS
            refine wpAnyH_take (i := 12) (v := ?_) rfl (by kernel_rfl) (by kernel_rfl) (by kernel_rfl) (fun _ _ _ h => h) (Or.inl ⟨by rfl, ?_⟩) (by assumption) ?_
            rotate_left
            · (intro w hSw; (try dsimp only at hSw); go_simp; (try with_reducible rfl))
            simp only [Act.put, List.setIfInBounds_toArray, List.set_cons_zero, List.set_cons_succ]
            simp only [List.getElem_toArray, List.getElem_cons_succ, List.getElem_cons_zero]
            refine wpAnyH_take (i := 13) (v := ?_) rfl (by kernel_rfl) (by kernel_rfl) (by kernel_rfl) (fun _ _ _ h => h) (Or.inl ⟨by rfl, ?_⟩) (by assumption) ?_
            rotate_left
            · (intro w hSw; (try dsimp only at hSw); go_simp; (try with_reducible rfl))
            simp only [Act.put, List.setIfInBounds_toArray, List.set_cons_zero, List.set_cons_succ]
            simp only [List.getElem_toArray, List.getElem_cons_succ, List.getElem_cons_zero]
            refine wpAnyH_done (by kernel_rfl) ?_ _
            dsimp only [atEnd]
            go_wp2_with fail
            refine hmk2.mono ?_
            rintro e w9 ⟨rfl, h9, k9⟩
            have hkA := HK7.out.trans (HK8.out.trans k9)
            have hkT := HKT7.out.trans (HK8.out.trans k9)
            have hT9 := HTT.out.kc hkT HAP.out HTF.out
            have hap9 := hkT.fc.apart HAP.out (fun k hk => (HTT.out.os.lt hk).2)
            clear hmk2 y7 z7 hW9 HK7 HK8 HKT7 hkT k9 cT HTT HAP
            go_wp2
            go_roundw
            case rel => exact ⟨k + 1, G t q, _, FA7, by omega, by go_num, ⟨m6, mc7, fn7, fk7, vs7, by rw [← hG]; exact h9⟩, hkA, hT9, hap9, HT.out, HCL.out⟩
            case measure => simp [intOf]; omega
          · obtain rfl : k = tn := by omega
            rw [List.take_of_length_le (by omega)] at ht
            go_wp2
            go_end0
            rw [HP.out, ← ht]
            exact ⟨rfl, C1, FA1, hS, hK⟩)
end Go.Proofs.Ytdcoppighkbofaa
/- Covers, the program's run. No condition beyond those stated. -/
namespace Go.Proofs.Ytdcoppighkbofaa
open Go.RowKit

theorem searchI_any (w0 : World) (M v : Nat) (OA : Option Addr) (on oc : Nat) (os : List (List Int)) (WA : Option Addr) (wk : Nat) (first : Bool) (budget : Int) (hC : Cover (v : Int) os) (hb : budget ≤ 20000) :
    ∀ (f : Nat) (w : World) (s : Cst) (ch : List Nat) (C FA : Option Addr), s.left ≤ f → (s.left : Int) ≤ budget → Chosen os ch → s.found.length + s.left ≤ 20000 → SIc w0 w M v OA on oc os WA wk first budget s ch C FA →
      Calls Try.prog 35 #[.pointer (some ⟨w0.heap.size + 1, 0, none⟩)] w (RetJ w0 w M v OA on oc os WA wk first budget (visC os v first f s ch) ch C FA)
  | 0, w, s, ch, C, FA, hf, hl, hch, hfo, hS => by
    cases hst : stopC first s with
    | true => rw [visC_stop hst]; exact searchI_stop w0 w M v OA on oc os WA wk first budget s ch C FA hS hst
    | false =>
      rw [visC_zero hst (by omega) (visC os v first 0)]
      exact searchI_step w0 w M v OA on oc os WA wk first budget s ch C FA _ hS hC hch hst hb hl hfo (fun w' s' ch' C' FA' h => by omega) (fun s' ch' => visC_le _ _ _ _ _ _)
  | f + 1, w, s, ch, C, FA, hf, hl, hch, hfo, hS => by
    cases hst : stopC first s with
    | true => rw [visC_stop hst]; exact searchI_stop w0 w M v OA on oc os WA wk first budget s ch C FA hS hst
    | false =>
      rw [visC_succ hst]
      exact searchI_step w0 w M v OA on oc os WA wk first budget s ch C FA _ hS hC hch hst hb hl hfo
        (fun w' s' ch' C' FA' h1 h2 h3 h4 => searchI_any w0 M v OA on oc os WA wk first budget hC hb f w' s' ch' C' FA' (by omega) (by omega) h2 h3 h4) (fun s' ch' => visC_le _ _ _ _ _ _)
theorem withL_step {os : List (List Int)} {v k : Nat} (h : k < v) : (withL os v).take (k + 1) = (withL os v).take k ++ [intsN (withP os (k : Nat))] := by
  rw [List.take_succ_eq_append_getElem (by rw [withL_len]; exact h)]
  congr 1
  simp [withL]
/-- the state while the options with each item are gathered -/
structure WSt (w0 w : World) (v : Nat) (OA : Option Addr) (on oc : Nat) (os : List (List Int)) (WA : Option Addr) (k wk : Nat) (first : Bool) (b : Int) : Prop where
  x : Blk w (w0.heap.size + 1) 57 #[.int .i64 b, .bool false, .int .i64 v, .slice OA on oc, .slice WA k wk, .bool first, .slice (some ⟨w0.heap.size, 0, none⟩) v v, .slice none 0 0, .int .i64 0, .slice none 0 0]
  b : Below w0.heap.size w0 w
  o0 : RR w0 OA on os
  d : OS w w0.heap.size 4 1 (some ⟨w0.heap.size, 0, none⟩) v v (flags v (fun x => covB os [] (x : Nat)))
  wi : OR w (w0.heap.size + 2) 32 2 WA k wk ((withL os v).take k)
theorem WSt.below {w0 w w' : World} {v : Nat} {OA : Option Addr} {on oc : Nat} {os : List (List Int)} {WA : Option Addr} {k wk : Nat} {first : Bool} {b : Int} (h : WSt w0 w v OA on oc os WA k wk first b) (hb : Below w.heap.size w w') : WSt w0 w' v OA on oc os WA k wk first b :=
  ⟨h.x.after hb, h.b.trans (hb.mono h.b.size), h.o0, h.d.below hb, h.wi.below hb⟩
theorem WSt.lt {w0 w : World} {v : Nat} {OA : Option Addr} {on oc : Nat} {os : List (List Int)} {WA : Option Addr} {k wk : Nat} {first : Bool} {b : Int} (h : WSt w0 w v OA on oc os WA k wk first b) : w0.heap.size + 2 ≤ w.heap.size := h.x.lt
/-- a row more -/
theorem WSt.push {w0 w w' : World} {v : Nat} {OA : Option Addr} {on oc : Nat} {os : List (List Int)} {WA WA' : Option Addr} {k wk wk' : Nat} {first : Bool} {b : Int} (h : WSt w0 w v OA on oc os WA k wk first b) (hg : w.grownBy w' (blk WA)) (hr : OR w' (w0.heap.size + 2) 32 2 WA' (k + 1) wk' ((withL os v).take (k + 1))) :
    Blk w' (w0.heap.size + 1) 57 #[.int .i64 b, .bool false, .int .i64 v, .slice OA on oc, .slice WA k wk, .bool first, .slice (some ⟨w0.heap.size, 0, none⟩) v v, .slice none 0 0, .int .i64 0, .slice none 0 0] ∧ WSt w0 (w'.setCell ⟨w0.heap.size + 1, 4, none⟩ (.slice WA' (k + 1) wk')) v OA on oc os WA' (k + 1) wk' first b := by
  have hW : ∀ q, blk WA = some q → w0.heap.size + 2 ≤ q := fun q hq => by
    obtain ⟨vs, hv⟩ := h.wi
    exact (hv.os.lt hq).1
  have hlt := h.lt
  have hX := h.x.grown hg (fun e => by have := hW (w0.heap.size + 1) e.symm; omega)
  exact ⟨hX, hX.set_ 4 _, (h.b.grown hg (by omega) (fun q hq => by have := hW q hq; omega)).setCell (by show w0.heap.size ≤ w0.heap.size + 1; omega) _, h.o0,
    (h.d.kept hg (.inr (fun e => by have := hW w0.heap.size e.symm; omega))).setFar (p := ⟨w0.heap.size + 1, 4, none⟩) (by simp [blk]) _, hr.setLow (by show w0.heap.size + 1 < w0.heap.size + 2; omega) _⟩
/-- what a run of the program returns -/
def RetSd (w : World) (v : Int) (OA : Option Addr) (on oc : Nat) (os : List (List Int)) (b : Int) (first : Bool) (e : Ending) (w' : World) : Prop :=
  Below w.heap.size w w' ∧ ((covK os v b first ≠ 0 ∧ e = .returned (.tuple #[.pointer none, .int .i64 (covK os v b first)])) ∨
    (covK os v b first = 0 ∧ ∃ W1 M WA wk C FA, e = .returned (.tuple #[.pointer (some ⟨W1.heap.size + 1, 0, none⟩), .int .i64 0]) ∧ w.heap.size ≤ W1.heap.size ∧ SIc W1 w' M v.toNat OA on oc os WA wk first b (runC os v b first) [] C FA))
set_option maxRecDepth 100000 in
set_option maxHeartbeats 4000000 in
theorem searched_any (v : Int) (OA : Option Addr) (on oc : Nat) (os : List (List Int)) (b : Int) (first : Bool) (w : World) (ho : RR w OA on os) (hn : on ≤ 9223372036854775807) :
    Calls Try.prog 26 #[.agg #[.int .i64 v, .slice OA on oc], .int .i64 b, .bool first] w (RetSd w v OA on oc os b first) := by
  obtain ⟨W1, hW1⟩ : ∃ W1, w.alloc (.cells #[.int .i64 v, .slice OA on oc] 28) = W1 := ⟨_, rfl⟩
  have hb1 : Below w.heap.size w W1 := hW1 ▸ below_alloc w _
  have hs1 : W1.heap.size = w.heap.size + 1 := by rw [← hW1]; simp
  have X : Blk W1 w.heap.size 28 #[.int .i64 v, .slice OA on oc] := hW1 ▸ Blk.new w _ _
  obtain ⟨x0, x1⟩ := X.cells2
  have hval := validCover_any v OA on oc os W1 (ho.keep hb1) hn
  have HO1 := Lib.hid (ho.keep hb1)
  have HS1 := Lib.hid hs1
  clear hs1
  cases hc : tB (Cover v os) with
  | false =>
    rw [hc] at hval
    have HK := Lib.hid (show covK os v b first = 1 by rw [covK, hc]; rfl)
    go_enter Try.func26, Try.ntmps26
    go_wp2_with (go_at_call 32; refine hval.mono ?_; rintro e w2 ⟨rfl, hb2⟩)
    go_ret2
    exact ⟨below_then hb1 hb2, .inl ⟨by rw [HK.out]; omega, by rw [HK.out]; rfl⟩⟩
  | true =>
    rw [hc] at hval
    have hC := tB_true.1 hc
    cases hi : inB b 1 20000 with
    | false =>
      have HK := Lib.hid (show covK os v b first = 2 by rw [covK, hc, hi]; rfl)
      go_enter Try.func26, Try.ntmps26
      go_wp2_with (first | (go_at_call 32; refine hval.mono ?_; rintro e w2 ⟨rfl, hb2⟩) | (go_at_call 33; refine (isBudget_any _ _).mono ?_; rintro e w3 ⟨rfl, rfl⟩; rw [hi]))
      go_ret2
      exact ⟨below_then hb1 hb2, .inl ⟨by rw [HK.out]; omega, by rw [HK.out]; rfl⟩⟩
    | true =>
      obtain ⟨v', rfl⟩ : ∃ v' : Nat, v = (v' : Int) := ⟨v.toNat, by have := hC.v1; omega⟩
      have hbb := inB_true hi
      have hv : (v' : Int) ≤ 64 := hC.v2
      have hol := ho.len
      have hon : on ≤ 256 := by have := hC.len; omega
      have hmk1 := run_make_row' (P := Try.prog) 46 4 (.bool false) 1 Try.underlying46 bool_info' rfl .i64 .i64 v' (by omega) (by omega)
      have HC := Lib.hid hC
      clear ho hol hC
      go_enter Try.func26, Try.ntmps26
      go_wp2_with (first | (go_at_call 32; refine hval.mono ?_; rintro e w2 ⟨rfl, hb2⟩; have y0 := below_cell hb2 x0; have y1 := below_cell hb2 x1) | (go_at_call 33; refine (isBudget_any _ _).mono ?_; rintro e w3 ⟨rfl, rfl⟩; rw [hi]))
      clear hval
      refine region_last (P := Try.prog) (S := fun w' => w'.cell? ⟨w.heap.size, 0, none⟩ = some (.int .i64 v') ∧ w'.cell? ⟨w.heap.size, 1, none⟩ = some (.slice OA on oc)) (by kernel_rfl) (by simp only [List.getLast?_cons_cons, List.getLast?_singleton]; rfl) (by dsimp only [List.dropLast]) (by kernel_rfl) (by simpa using ⟨y0, y1⟩) ?_
      intro hS
      refine wpAnyH_take (i := 0) (v := ?_) rfl (by kernel_rfl) (by kernel_rfl) (by kernel_rfl) (fun _ _ _ h => h) (Or.inl ⟨by rfl, ?_⟩) (by assumption) ?_
      rotate_left
      · (intro w hSw; (try dsimp only at hSw); go_simp; (try with_reducible rfl))
      simp only [Act.put, List.setIfInBounds_toArray, List.set_cons_zero, List.set_cons_succ]
      refine wpAnyH_take (i := 1) (v := ?_) rfl (by kernel_rfl) (by kernel_rfl) (by kernel_rfl) (fun _ _ _ h => h) (Or.inl ⟨by rfl, ?_⟩) (by assumption) ?_
      rotate_left
      · (intro w hSw; (try dsimp only at hSw); go_simp; (try with_reducible rfl))
      simp only [Act.put, List.setIfInBounds_toArray, List.set_cons_zero, List.set_cons_succ]
      refine wpAnyH_take (i := 2) (v := ?_) rfl (by kernel_rfl) (by kernel_rfl) (by kernel_rfl) (fun _ _ _ h => h) (Or.inl ⟨by rfl, ?_⟩) (by assumption) ?_
      rotate_left
      · (intro w hSw; (try dsimp only at hSw); go_simp; (try with_reducible rfl))
      simp only [Act.put, List.setIfInBounds_toArray, List.set_cons_zero, List.set_cons_succ]
      refine wpAnyH_take (i := 3) (v := ?_) rfl (by kernel_rfl) (by kernel_rfl) (by kernel_rfl) (fun _ _ _ h => h) (Or.inl ⟨by rfl, ?_⟩) (by assumption) ?_
      rotate_left
      · (intro w hSw; (try dsimp only at hSw); go_simp; (try with_reducible rfl))
      simp only [Act.put, List.setIfInBounds_toArray, List.set_cons_zero, List.set_cons_succ]
      refine wpAnyH_take (i := 4) (v := ?_) rfl (by kernel_rfl) (by kernel_rfl) (by kernel_rfl) (fun _ _ _ h => h) (Or.inl ⟨by rfl, ?_⟩) (by assumption) ?_
      rotate_left
      · (intro w hSw; (try dsimp only at hSw); go_simp; (try with_reducible rfl))
      simp only [Act.put, List.setIfInBounds_toArray, List.set_cons_zero, List.set_cons_succ]
      refine wpAnyH_take (i := 5) (v := ?_) rfl (by kernel_rfl) (by kernel_rfl) (by kernel_rfl) (fun _ _ _ h => h) (Or.inl ⟨by rfl, ?_⟩) (by assumption) ?_
      rotate_left
      · (intro w hSw; (try dsimp only at hSw); go_simp; (try with_reducible rfl))
      simp only [Act.put, List.setIfInBounds_toArray, List.set_cons_zero, List.set_cons_succ]
      have hbd : Below W1.heap.size W1 w2.drew := hb2.trans ((show Below w2.heap.size w2 w2.drew by have := below_drewn w2 1; rwa [← World.drew_is_drewN] at this).mono hb2.size)
      obtain ⟨W0, hW0⟩ : ∃ W0, w2.drew = W0 := ⟨_, rfl⟩
      rw [hW0] at hS hbd
      rw [hW0]
      obtain ⟨WA, hWA⟩ : ∃ WA, W0.alloc (.cells (madeCells #[.bool false] v') 4) = WA := ⟨_, rfl⟩
      have hbA : Below W0.heap.size W0 WA := hWA ▸ below_alloc W0 _
      have hsA : WA.heap.size = W0.heap.size + 1 := by rw [← hWA]; simp
      have hdA := OS.made W0 W0.heap.size 4 (.bool false) v' (Nat.le_refl _) (by omega)
      rw [flags_nil os, hWA] at hdA
      refine wpAnyH_ready (rs := [6]) (by kernel_rfl) (by simp) ?_
      refine AllReadyH.cons rfl (fun K hK => ?_) AllReadyH.nil
      go_simp
      refine hK.out _ _ ⟨below_cell hbA hS.1, below_cell hbA hS.2⟩ (fun hS1 => ?_)
      clear hK K
      refine wpAnyH_take (i := 7) (v := ?_) rfl (by kernel_rfl) (by kernel_rfl) (by kernel_rfl) (fun _ _ _ h => h) (Or.inl ⟨by rfl, ?_⟩) (by assumption) ?_
      rotate_left
      · (intro w hSw; (try dsimp only at hSw); go_simp; (try with_reducible rfl))
      simp only [Act.put, List.setIfInBounds_toArray, List.set_cons_zero, List.set_cons_succ]
      refine wpAnyH_ready (rs := [8]) (by kernel_rfl) (by simp) ?_
      refine AllReadyH.cons rfl (fun K hK => ?_) AllReadyH.nil
      go_simp
      obtain ⟨WB, hWB⟩ : ∃ WB, WA.alloc (.cells #[.int .i64 b, .bool false, .int .i64 v', .slice OA on oc, .slice none 0 0, .bool first, .slice (some ⟨W0.heap.size, 0, none⟩) v' v', .slice none 0 0, .int .i64 0, .slice none 0 0] 57) = WB := ⟨_, rfl⟩
      have hbB : Below WA.heap.size WA WB := hWB ▸ below_alloc WA _
      have hbAB := below_then hbA hbB
      have hXB : Blk WB (W0.heap.size + 1) 57 #[.int .i64 b, .bool false, .int .i64 v', .slice OA on oc, .slice none 0 0, .bool first, .slice (some ⟨W0.heap.size, 0, none⟩) v' v', .slice none 0 0, .int .i64 0, .slice none 0 0] := by
        rw [← hWB, ← hsA]; exact Blk.new WA _ _
      have hst : WSt W0 WB v' OA on oc os none 0 0 first b := ⟨hXB, hbAB, HO1.out.keep hbd, hdA.below hbB, by rw [List.take_zero]; exact OR.nil_ _ _ (by decide)⟩
      have c0 := below_cell hbAB hS.1
      have c1 := below_cell hbAB hS.2
      rw [hWB]
      refine hK.out _ _ ⟨c0, c1⟩ (fun hS2 => ?_)
      clear hK K hS1 hS2
      refine wpAnyH_done (by kernel_rfl) ?_ _
      dsimp only [atEnd]
      have hC0 : W0.cell? ⟨w.heap.size, 0, none⟩ = some (.int .i64 v') := hS.1
      have hC1 : W0.cell? ⟨w.heap.size, 1, none⟩ = some (.slice OA on oc) := hS.2
      have hsz0 : w.heap.size ≤ W0.heap.size := Nat.le_trans hb1.size hbd.size
      have hw0 : Below w.heap.size w W0 := below_then hb1 hbd
      clear hS hbA hdA hsA hWA hXB hbAB hbB hWB hW0 hb2 y0 y1 x0 x1 X hmk1 hW1
      go_wp2
      go_loopw [29] (fun i wr => ∃ (k : Nat) (WA' : Option Addr) (wk : Nat), k ≤ v' ∧ i = .int .i64 k ∧ WSt W0 wr v' OA on oc os WA' k wk first b) (fun i _ => v' - (intOf i).toNat)
      case atStart => exact ⟨0, none, 0, Nat.zero_le _, rfl, hst⟩
      case round =>
        clear hst c0 c1
        obtain ⟨k, WA', wk, hk, rfl, hr⟩ := hrel
        have c0 := below_cell hr.b hC0
        have c1 := below_cell hr.b hC1
        by_cases hlt : k < v'
        · have how := optionsWith_any v' OA on oc os (k : Int) wr (hr.o0.keep hr.b) HC.out (by omega)
          go_wp2_with fail
          refine how.mono ?_
          rintro e w3 ⟨A3, n3, c3, rfl, ho3, hb3⟩
          have hr3 := hr.below hb3
          obtain ⟨vs3, hv0⟩ := hr.wi
          have hv3 := hv0.below hb3
          have y4 := hr3.x.cell 4
          have hlt3 := hr3.lt
          have hap : ∀ (j : Nat) (u : Sl), vs3[j]? = some u → apart u (A3, n3, c3) := hv0.apart_new (fun b hb => (ho3.os.lt hb).1)
          have ho3' := ho3.more hr.lt
          have HR3 := Lib.hid hr3
          have HV3 := Lib.hid hv3
          have hkb : k ≤ 64 := by omega
          clear how hr hr3 hv3 hv0 hb3
          go_wp2_with (at_builtin; refine app_row _ rfl (.tmp 42) (.tmp 44) rfl (W0.heap.size + 2) WA' k wk vs3 ((withL os v').take k) rfl HV3.out (A3, n3, c3) (intsN (withP os (k : Int))) ho3' hap w3.heap.size rfl rfl (Nat.le_trans (Nat.succ_le_succ hkb) (by decide)) hlt3 ?_; intro A5 c5 w5 ho5 hg5 hf5; obtain ⟨hX5, hN5⟩ := HR3.out.push hg5 (by rw [withL_step hlt]; exact ⟨_, ho5⟩); have z4 := hX5.frozen 4; have q4 := hX5.cell 4; have HN5 := Lib.hid hN5; clear hX5 hN5 ho5 hg5 hf5)
          go_roundw
          case rel => exact ⟨k + 1, A5, c5, by omega, by go_num, HN5.out⟩
          case measure => simp [intOf]; omega
        · obtain rfl : k = v' := by omega
          have hic : SIc W0 wr wr.heap.size k OA on oc os WA' wk first b (startC b) [] none none := by
            refine ⟨0, 0, 0, 0, [], ?_⟩
            have hwi := hr.wi.bound
            rw [List.take_of_length_le (by rw [withL_len]; exact Nat.le_refl _)] at hwi
            have e1 : (((startC b).left : Nat) : Int) = b := by show ((b.toNat : Nat) : Int) = b; omega
            rw [e1, show b - b = 0 by omega]
            exact ⟨hr.x, hr.b, hr.o0, hr.lt, Nat.le_refl _, hr.d, hwi, OI.nil_ _ _ _, ⟨OS.nil_ _ _ _ _, rfl, fun j u z h => by simp at h, fun i j u x _ h => by simp at h, by decide⟩, fun j u h => by simp at h⟩
          have hse := searchI_any W0 wr.heap.size k OA on oc os WA' wk first b HC.out hbb.2 b.toNat wr (startC b) [] none none (Nat.le_refl _) (by show ((b.toNat : Nat) : Int) ≤ b; omega) (Chosen.nil os) (by show 0 + b.toNat ≤ 20000; omega) hic
          have HK := Lib.hid (show covK os k b first = if (runC os k b first).spent then 5 else 0 by rw [covK, hc, hi]; rfl)
          have hwr := hw0.trans (hr.b.mono hsz0)
          clear hr hic hC0 hC1 c0 c1 HC
          go_wp2_with fail
          refine hse.mono ?_
          rintro e w4 ⟨rfl, C4, FA4, ⟨m4, mc4, fn4, fk4, vs4, h4⟩, k4⟩
          change ICv W0 w4 wr.heap.size k OA on oc os WA' wk C4 m4 mc4 FA4 fn4 fk4 ((runC os k b first).left : Nat) (b - (runC os k b first).left) (runC os k b first).spent first (fun x => covB os [] (x : Nat)) [] vs4 (runC os k b first).found at h4
          obtain ⟨⟨-, y1, -, -⟩, -⟩ := h4.cells
          have HB4 := Lib.hid (hw0.trans (h4.b.mono hsz0))
          have H4 := Lib.hid h4
          clear hse h4 k4
          cases hsp : (runC os k b first).spent with
          | true =>
            rw [hsp] at y1
            have HK2 := Lib.hid (show covK os k b first = 5 by rw [HK.out, hsp]; rfl)
            clear hsp HK
            go_wp2
            go_ret2
            exact ⟨HB4.out, .inl ⟨by rw [HK2.out]; omega, by rw [HK2.out]; rfl⟩⟩
          | false =>
            rw [hsp] at y1
            have HK2 := Lib.hid (show covK os k b first = 0 by rw [HK.out, hsp]; rfl)
            clear hsp HK
            go_wp2
            go_ret2
            exact ⟨HB4.out, .inr ⟨HK2.out, W0, wr.heap.size, WA', wk, C4, FA4, rfl, hsz0, m4, mc4, fn4, fk4, vs4, H4.out⟩⟩
end Go.Proofs.Ytdcoppighkbofaa
/- Covers, the program's three functions. No condition beyond those stated. -/
namespace Go.Proofs.Ytdcoppighkbofaa
open Go.RowKit

set_option maxRecDepth 100000 in
set_option maxHeartbeats 1000000 in
theorem impl_AllCovers (v : Int) (OA : Option Addr) (on oc : Nat) (os : List (List Int)) (b : Int) (w : World) (ho : RR w OA on os) (hn : on ≤ 9223372036854775807) :
    Calls Try.prog 18 #[.agg #[.int .i64 v, .slice OA on oc], .int .i64 b] w (RetRC w 32 2 (covA os v b) (covK os v b false)) := by
  obtain ⟨W1, hW1⟩ : ∃ W1, w.alloc (.cells #[.int .i64 v, .slice OA on oc] 28) = W1 := ⟨_, rfl⟩
  have hb1 : Below w.heap.size w W1 := hW1 ▸ below_alloc w _
  have X : Blk W1 w.heap.size 28 #[.int .i64 v, .slice OA on oc] := hW1 ▸ Blk.new w _ _
  obtain ⟨x0, x1⟩ := X.cells2
  have hrun := searched_any v OA on oc os b false W1 (ho.keep hb1) hn
  have hkb := covK_bd os v b false
  have HA := Lib.hid (show covA os v b = if covK os v b false = 0 then (runC os v b false).found else [] from rfl)
  have hsz := Lib.hid hb1.size
  go_enter Try.func18, Try.ntmps18
  go_wp2_with fail
  refine hrun.mono ?_
  rintro e w2 ⟨hb2, ⟨hK, rfl⟩ | ⟨hK, W3, M, WA, wk, C, FA, rfl, hsz3, m, mc, fn, fk, vs, h⟩⟩
  · have HB := Lib.hid (hb1.trans (hb2.mono hb1.size))
    generalize covK os v b false = K at *
    have hK' : (K == 0) = false := by simpa using hK
    have HK := Lib.hid hK
    clear hrun hb2 hW1 hK
    go_wp2
    go_ret2
    refine ⟨none, 0, 0, rfl, ?_, HB.out⟩
    rw [HA.out, if_neg HK.out]
    exact OR.nil_ _ _ (by decide)
  · have HB := Lib.hid (hb1.trans (hb2.mono hb1.size))
    have y9 := h.cells.2.2.2.2.2.2
    have HR := Lib.hid h.r
    have hM := Lib.hid h.M2
    have hsz3' := Lib.hid hsz3
    have HK := Lib.hid hK
    clear hrun hb2 hW1 h hK hsz3 hkb
    go_wp2
    go_ret2
    refine ⟨FA, fn, fk, ?_, ?_, HB.out⟩
    · rw [HK.out]; rfl
    · rw [HA.out, if_pos HK.out]
      exact OR.more ⟨_, HR.out⟩ (by have := hsz.out; have := hM.out; have := hsz3'.out; omega)
set_option maxHeartbeats 1000000 in
theorem impl_CountCovers (v : Int) (OA : Option Addr) (on oc : Nat) (os : List (List Int)) (b : Int) (w : World) (ho : RR w OA on os) (hn : on ≤ 9223372036854775807) :
    Calls Try.prog 9 #[.agg #[.int .i64 v, .slice OA on oc], .int .i64 b] w (RetNC w ((covA os v b).length : Nat) (covK os v b false)) := by
  obtain ⟨W1, hW1⟩ : ∃ W1, w.alloc (.cells #[.int .i64 v, .slice OA on oc] 28) = W1 := ⟨_, rfl⟩
  have hb1 : Below w.heap.size w W1 := hW1 ▸ below_alloc w _
  have X : Blk W1 w.heap.size 28 #[.int .i64 v, .slice OA on oc] := hW1 ▸ Blk.new w _ _
  obtain ⟨x0, x1⟩ := X.cells2
  have hrun := impl_AllCovers v OA on oc os b W1 (ho.keep hb1) hn
  have hsize := fun (A : Option Addr) (n c : Nat) (w' : World) => (show Calls Try.prog 25 #[.slice A n c] w' (fun e w'' => e = .returned (.int .i64 n) ∧ w' = w'') from by
    go_enter Try.func25, Try.ntmps25
    go_wp2
    go_ret
    exact ⟨rfl, rfl⟩)
  go_enter Try.func9, Try.ntmps9
  go_wp2_with (first | (go_at_call 18; refine hrun.mono ?_; rintro e w2 ⟨A, n, c, rfl, hr, hb2⟩; have hlen := Lib.hid hr.len; have HB := Lib.hid (hb1.trans (hb2.mono hb1.size)); clear hr hb2) | (go_at_call 25; refine (hsize _ _ _ _).mono ?_; rintro e w3 ⟨rfl, rfl⟩))
  go_ret2
  exact ⟨by rw [hlen.out]; rfl, HB.out⟩
set_option maxRecDepth 100000 in
set_option maxHeartbeats 1000000 in
theorem impl_FirstCover (v : Int) (OA : Option Addr) (on oc : Nat) (os : List (List Int)) (b : Int) (w : World) (ho : RR w OA on os) (hn : on ≤ 9223372036854775807) :
    Calls Try.prog 12 #[.agg #[.int .i64 v, .slice OA on oc], .int .i64 b] w (RetIC w 2 (covFL os v b) (covFK os v b)) := by
  obtain ⟨W1, hW1⟩ : ∃ W1, w.alloc (.cells #[.int .i64 v, .slice OA on oc] 28) = W1 := ⟨_, rfl⟩
  have hb1 : Below w.heap.size w W1 := hW1 ▸ below_alloc w _
  have X : Blk W1 w.heap.size 28 #[.int .i64 v, .slice OA on oc] := hW1 ▸ Blk.new w _ _
  obtain ⟨x0, x1⟩ := X.cells2
  have hrun := searched_any v OA on oc os b true W1 (ho.keep hb1) hn
  have HA := Lib.hid (show covFL os v b = if covK os v b true = 0 then row (runC os v b true).found 0 else [] from rfl)
  have HF := Lib.hid (show covFK os v b = if covK os v b true = 0 ∧ (runC os v b true).found = [] then 3 else covK os v b true from rfl)
  have hsz := Lib.hid hb1.size
  have hkb := covK_bd os v b true
  go_enter Try.func12, Try.ntmps12
  go_wp2_with fail
  refine hrun.mono ?_
  rintro e w2 ⟨hb2, ⟨hK, rfl⟩ | ⟨hK, W3, M, WA, wk, C, FA, rfl, hsz3, m, mc, fn, fk, vs, h⟩⟩
  · have HB := Lib.hid (hb1.trans (hb2.mono hb1.size))
    generalize covK os v b true = K at *
    have hK' : (K == 0) = false := by simpa using hK
    have HK := Lib.hid hK
    clear hrun hb2 hW1 hK
    go_wp2
    go_ret2
    refine ⟨none, 0, 0, ?_, ?_, HB.out⟩
    · rw [HF.out, if_neg (fun h => HK.out h.1)]; rfl
    · rw [HA.out, if_neg HK.out]
      exact OI.nil_ _ _ _
  · have HB := Lib.hid (hb1.trans (hb2.mono hb1.size))
    have y9 := h.cells.2.2.2.2.2.2
    have hr := h.r
    have hM := Lib.hid h.M2
    have hsz3' := Lib.hid hsz3
    have HK := Lib.hid hK
    have hlen := hr.slen
    have HK0 := Lib.hid (show covK os v b true = 0 ∧ ((runC os v b true).found = [] → covFK os v b = 3) ∧ ((runC os v b true).found ≠ [] → covFK os v b = 0) from ⟨hK, fun e => by rw [HF.out, if_pos ⟨hK, e⟩], fun e => by rw [HF.out, if_neg (fun h => e h.2), hK]⟩)
    clear hrun hb2 hW1 h hK hsz3 hkb HF
    generalize (runC os v b true).found = fd at *
    by_cases h0 : fd = []
    · subst h0
      obtain rfl : fn = 0 := by simpa using hlen.symm
      have HF3 := Lib.hid (HK0.out.2.1 rfl)
      clear hr hlen HK0
      go_wp2
      go_ret2
      refine ⟨none, 0, 0, ?_, ?_, HB.out⟩
      · rw [HF3.out]; rfl
      · rw [HA.out, if_pos HK.out]
        exact OI.nil_ _ _ _
    · have hpos : 0 < fn := by rw [← hlen]; exact List.length_pos_iff.2 h0
      obtain ⟨g4, v4, rfl, hv4, c4, -, hr4⟩ := hr.get hpos
      have hl0 : ((fn : Int) == 0) = false := by simp; omega
      have HR := Lib.hid hr4
      have HF3 := Lib.hid (HK0.out.2.2 h0)
      clear hr hr4 h0 hlen HK0
      go_wp2
      go_ret2
      refine ⟨v4.1, v4.2.1, v4.2.2, ?_, ?_, HB.out⟩
      · rw [HF3.out]; rfl
      · rw [HA.out, if_pos HK.out]
        exact HR.out.more (by have := hsz.out; have := hM.out; have := hsz3'.out; omega)
end Go.Proofs.Ytdcoppighkbofaa
