/- Transversals, the program's search, a node. No condition beyond those stated. -/
import Derived.Test.YtcnjlkabdfcjdaaZBM
set_option linter.unusedVariables false
set_option linter.unusedSimpArgs false
namespace Go.Proofs.Ytcnjlkabdfcjdaa
open Go.RowKit

theorem freeT_memB (a : List (List Int)) (cols : List Int) (y : Nat) : freeT a cols y = (!(memB cols (y : Int)) && !(memB (symT a cols) (nth (row a cols.length) y))) := by
  have e : ∀ (l : List Int) (x : Int), l.contains x = memB l x := fun l x => by
    by_cases h : x ∈ l
    · rw [memB_true.2 h, List.contains_iff_mem.2 h]
    · rw [memB_false.2 h, Bool.eq_false_iff]; exact fun e => h (List.contains_iff_mem.1 e)
  rw [freeT, e, e]
theorem symT_snoc (a : List (List Int)) (cols : List Int) (y : Nat) : symT a (cols ++ [(y : Int)]) = symT a cols ++ [nth (row a cols.length) y] := by
  unfold symT
  rw [List.length_append, List.length_singleton, List.range_succ, List.map_append]
  congr 1
  · refine List.map_congr_left fun i hi => ?_
    rw [nth_snocT, if_pos (List.mem_range.1 hi)]
  · simp [nth_snocT]
theorem memB_snoc (l : List Int) (q x : Int) : memB (l ++ [q]) x = (memB l x || (q == x)) := by simp [memB]
theorem flag_on (a : List (List Int)) (cols : List Int) {y q : Nat} (hz : nth (row a cols.length) y = (q : Int)) (x : Nat) : memB (symT a (cols ++ [(y : Int)])) (x : Int) = if x = q then true else memB (symT a cols) (x : Int) := by
  rw [symT_snoc, memB_snoc, hz]
  by_cases h : x = q
  · subst h; simp
  · rw [if_neg h, show ((q : Int) == (x : Int)) = false by simp; omega, Bool.or_false]
theorem flag_off (a : List (List Int)) (cols : List Int) {y q : Nat} (hz : nth (row a cols.length) y = (q : Int)) (hf : memB (symT a cols) (q : Int) = false) (x : Nat) : memB (symT a cols) (x : Int) = if x = q then false else memB (symT a (cols ++ [(y : Int)])) (x : Int) := by
  rw [flag_on a cols hz]
  by_cases h : x = q
  · subst h; rw [if_pos rfl, hf]
  · rw [if_neg h, if_neg h]
/-- the search below a node -/
def SubT (w0 : World) (M n : Nat) (SA : Option Addr) (sc : Nat) (a : List (List Int)) (lim k : Nat) : Prop :=
  ∀ (w' : World) (s' : TSt) (cols' : List Int) (C' FA' : Option Addr), cols'.length + k = n → s'.spent = false → s'.found.length < lim → s'.left ≤ 20000 → ITs w0 w' M n SA sc a lim s' cols' C' FA' →
    Calls Try.prog 37 #[.pointer (some ⟨w0.heap.size + 1, 0, none⟩)] w' (RetTs w0 w' M n SA sc a lim (trS a lim k cols' s') cols' C' FA')
theorem drop_range {n y : Nat} (h : y < n) : (List.range n).drop y = y :: (List.range n).drop (y + 1) := by
  rw [List.drop_eq_getElem_cons (by simpa using h)]
  simp
theorem drop_range_all (n : Nat) : (List.range n).drop n = [] := List.drop_eq_nil_of_le (by simp)
set_option maxRecDepth 100000 in
set_option maxHeartbeats 8000000 in
theorem searchT_step (w0 w : World) (M n : Nat) (SA : Option Addr) (sc : Nat) (a : List (List Int)) (lim k : Nat) (s : TSt) (cols : List Int) (C FA : Option Addr)
    (hq : Square a) (hl : cols.length + (k + 1) = n) (hlim : lim ≤ 100) (hsp : s.spent = false) (hfl : s.found.length < lim) (hsl : s.left ≤ 20000) (hS : ITs w0 w M n SA sc a lim s cols C FA) (hsub : SubT w0 M n SA sc a lim k) :
    Calls Try.prog 37 #[.pointer (some ⟨w0.heap.size + 1, 0, none⟩)] w (RetTs w0 w M n SA sc a lim (trS a lim (k + 1) cols s) cols C FA) := by
  obtain ⟨m, mc, fn, fk, vs, h⟩ := hS
  have hml := h.c.len
  have han := h.o0.len
  have hn10 : n ≤ 10 := by have := hq.2.1; omega
  obtain ⟨ad, RA, rn, rc, hSA, hcx, hrc, hrc2, hRI⟩ := h.o0.get (show cols.length < n by omega)
  obtain ⟨hr1, hr2⟩ := hq.2.2.1 cols.length (by omega)
  have hrl := hRI.len
  obtain rfl : rn = n := by omega
  obtain rfl : m = cols.length := by omega
  have hcw := below_cell h.b hcx
  have HLE := Lib.hid (fun (r : List Nat) (t : TSt) (h1 : t.found.length ≤ lim) (h2 : t.left ≤ 20000) => trL_le (a := a) (lim := lim) (L := 20000) (cols := cols) (sub := trS a lim k) (fun c s h1 h2 => trS_le k c s h1 h2) r t h1 h2)
  have HSL := Lib.hid (fun (c : List Int) (t : TSt) (h1 : t.found.length < lim) (h2 : t.left ≤ 20000) => trS_le (a := a) (lim := lim) (L := 20000) k c t h1 h2)
  obtain ⟨R, hR⟩ : ∃ R, trS a lim (k + 1) cols s = R := ⟨_, rfl⟩
  rw [hR]
  have HR := Lib.hid (show trL (trS a lim k) a lim cols ((List.range rn).drop 0) s = R by rw [List.drop_zero, ← hR, trS, han])
  obtain ⟨⟨x0, x1, x2, x3⟩, x4, x5, x6⟩ := h.cells
  have S0 : ITs w0 w M rn SA sc a lim s cols C FA := ⟨_, mc, fn, fk, vs, h⟩
  have HRI := Lib.hid hRI
  have HB := Lib.hid (fun (y : Nat) (hy : y < rn) => (show ∃ q : Nat, nth (row a cols.length) y = (q : Int) ∧ q < rn by
    have := hr2.bd y (by omega)
    exact ⟨(nth (row a cols.length) y).toNat, by omega, by omega⟩))
  have HFL := Lib.hid (show s.found.length ≤ lim by omega)
  have HSUB := Lib.hid hsub
  have HM := Lib.hid h.M2
  have hk : cols.length < rn := by omega
  have HCL := Lib.hid hl
  subst hSA
  clear h hsub hr1 hr2 hrl hml han hR hcx hfl hq hRI hl
  generalize hG : trS a lim k = G at *
  generalize hcl : cols.length = x at *
  have hxn : ((x : Int) == (rn : Int)) = false := by simp; omega
  go_enter Try.func37, Try.ntmps37
  go_wp2
  go_loopw [3, 4, 39] (fun _ _ i wr => ∃ (y : Nat) (t : TSt) (C' FA' : Option Addr), y ≤ rn ∧ i = .int .i64 y ∧ ITs w0 wr M rn (some ad) sc a lim t cols C' FA' ∧ Kc M w wr C C' FA FA' ∧ trL G a lim cols ((List.range rn).drop y) t = R ∧ t.found.length ≤ lim ∧ t.left ≤ 20000) (fun _ _ i _ => rn - (intOf i).toNat)
  case atStart => exact ⟨0, s, C, FA, Nat.zero_le _, rfl, S0, Kc.of_below (Below.refl _ _), HR.out, HFL.out, hsl⟩
  case round =>
    clear S0 x0 x1 x2 x3 x4 x5 x6 hsp hsl HR HFL hcw
    obtain ⟨y, t, C1, FA1, hy, rfl, hS, hK, hT, htf, htl⟩ := hrel
    by_cases hlt : y < rn
    · obtain ⟨m1, mc1, fn1, fk1, vs1, h⟩ := hS
      have hml := h.c.len
      rw [hcl] at hml
      obtain rfl : m1 = x := hml.symm
      obtain ⟨q, hqz, hqn⟩ := HB.out y hlt
      obtain ⟨ra, rfl, hcy, -⟩ := HRI.out.get hlt
      rw [hqz] at hcy
      have hcy := below_cell h.b hcy
      obtain ⟨⟨x0, x1, x2, x3⟩, x4, x5, x6⟩ := h.cells
      obtain ⟨gd, had, cd, cdf⟩ := h.d.cell (flags_at (f := fun z => memB (symT a cols) (z : Nat)) hqn)
      injection had with had
      injection had with had
      subst had
      have hct := containsI_any C1 m1 mc1 cols (y : Int) wr h.c.reads (by omega)
      have hdn := doneT_any h (by have := h.r.slen; omega)
      rw [drop_range hlt, trL, freeT_memB, hcl, hqz] at hT
      have HS := Lib.hid h
      have HK := Lib.hid hK
      have HTF := Lib.hid (And.intro htf htl)
      clear h hK
      cases hc1 : memB cols (y : Int) with
      | true =>
        rw [hc1] at hct hT
        rw [if_neg (by simp)] at hT
        have HT := Lib.hid hT
        clear hT hdn htf htl hc1
        go_wp2_with (go_at_call 53; refine hct.mono ?_; rintro e w1 ⟨rfl, rfl⟩)
        go_roundw
        case rel => exact ⟨y + 1, t, C1, FA1, by omega, by go_num, ⟨_, _, _, _, _, HS.out⟩, HK.out, HT.out, HTF.out⟩
        case measure => simp [intOf]; omega
      | false =>
        rw [hc1] at hct hT
        have HC1 := Lib.hid hc1
        cases hc2 : memB (symT a cols) (q : Int) with
        | true =>
          rw [hc2] at hT
          rw [if_neg (by simp)] at hT
          have HT := Lib.hid hT
          have cd2 : wr.cell? ⟨w0.heap.size, q, none⟩ = some (.bool true) := by rw [cd]; simp only [hc2]
          clear hT hdn htf htl hc1 hc2 cd HC1
          go_wp2_with (go_at_call 53; refine hct.mono ?_; rintro e w1 ⟨rfl, rfl⟩)
          go_roundw
          case rel => exact ⟨y + 1, t, C1, FA1, by omega, by go_num, ⟨_, _, _, _, _, HS.out⟩, HK.out, HT.out, HTF.out⟩
          case measure => simp [intOf]; omega
        | false =>
          rw [hc2] at hT
          rw [if_pos (by rfl)] at hT
          have HT := Lib.hid hT
          have HC2 := Lib.hid hc2
          have cd2 : wr.cell? ⟨w0.heap.size, q, none⟩ = some (.bool false) := by rw [cd]; simp only [hc2]
          have hfn := HS.out.r.slen
          have HD := Lib.hid (show decide (fn1 = lim) = true ↔ t.found.length = lim by rw [decide_eq_true_iff, ← hfn])
          clear hT hc1 hc2 cd
          cases hdd : (t.spent || decide (fn1 = lim)) with
          | true =>
            rw [hdd] at hdn
            have hor : t.spent = true ∨ t.found.length = lim := by
              rw [Bool.or_eq_true] at hdd
              exact hdd.imp id HD.out.1
            have hRt := HT.out
            rw [if_pos hor] at hRt
            have HRT := Lib.hid hRt
            clear hdd hor hRt HT HD htf htl hfn
            go_wp2_with (first | (go_at_call 53; refine hct.mono ?_; rintro e w1 ⟨rfl, rfl⟩) | (go_at_call 71; refine hdn.mono ?_; rintro e w1 ⟨rfl, nq, rfl⟩))
            refine bodyPost_ret (results_none rfl _ _ _) rfl ?_
            have hb := below_drewn wr nq
            exact ⟨rfl, C1, FA1, HRT.out ▸ ⟨_, _, _, _, _, HS.out.below hb⟩, HK.out.trans (Kc.of_below hb)⟩
          | false =>
            rw [hdd] at hdn
            have hnor : ¬ (t.spent = true ∨ t.found.length = lim) := fun e => by
              rw [Bool.or_eq_false_iff] at hdd
              rcases e with e | e
              · rw [hdd.1] at e; cases e
              · rw [HD.out.2 e] at hdd; cases hdd.2
            have hRt := HT.out
            rw [if_neg hnor] at hRt
            have hts : t.spent = false := by
              rw [Bool.or_eq_false_iff] at hdd
              exact hdd.1
            have hlt2 : t.found.length < lim := by
              rcases Nat.lt_or_ge t.found.length lim with e | e
              · exact e
              · exact absurd (.inr (by omega)) hnor
            have HLT2 := Lib.hid hlt2
            have HRT := Lib.hid hRt
            have HTS := Lib.hid hts
            clear hdd hnor hRt HT HD hlt2 hfn htf
            go_wp2_with (go_at_call 53; refine hct.mono ?_; rintro e w1 ⟨rfl, rfl⟩)
            refine hdn.mono ?_
            rintro e w1 ⟨rfl, nq, rfl⟩
            have h1 := HS.out.below (below_drewn wr nq)
            have K1 := HK.out.trans (Kc.of_below (C := C1) (FA := FA1) (below_drewn wr nq))
            clear hct hdn x0 x1 x2 x3 x4 x5 x6 cd2 cdf hcy HS HK
            generalize wr.drewN nq = W at *
            obtain ⟨⟨x0, x1, -, -⟩, -⟩ := h1.cells
            have z0 := h1.x.frozen 0
            have z1 := h1.x.frozen 1
            rw [hts] at x1
            have hnode := nodeC_any W (w0.heap.size + 1) t.left false x0 x1 z0 z1 (by omega)
            clear x0 x1 z0 z1 hts
            by_cases h0 : t.left = 0
            · rw [if_pos h0, show decide (t.left ≠ 0) = false by simp [h0]] at hnode
              have h2 := h1.spent_ true
              have K2 := Lib.hid (K1.trans (Kc.set (C := C1) (FA := FA1) (p := ⟨w0.heap.size + 1, 1, none⟩) (by have := HM.out; show w0.heap.size + 1 < M; omega) (.bool true)))
              have HRT2 := Lib.hid (show { t with spent := true } = R by have := HRT.out; rwa [if_pos h0] at this)
              have H2 := Lib.hid h2
              clear h1 h2 K1 h0 HRT
              go_wp2_with (fail)
              refine hnode.mono ?_
              rintro e w2 ⟨rfl, rfl⟩
              go_wp2
              refine bodyPost_ret (results_none rfl _ _ _) rfl ?_
              exact ⟨rfl, C1, FA1, HRT2.out ▸ ⟨_, _, _, _, _, H2.out⟩, K2.out⟩
            · rw [if_neg h0, show decide (t.left ≠ 0) = true by simp [h0]] at hnode
              have h2 := h1.left_ ((t.left : Int) - 1)
              rw [show (t.left : Int) - 1 = ((t.left - 1 : Nat) : Int) by omega] at h2 hnode
              have K2 := K1.trans (Kc.set (C := C1) (FA := FA1) (p := ⟨w0.heap.size + 1, 0, none⟩) (by have := HM.out; show w0.heap.size + 1 < M; omega) (.int .i64 ((t.left - 1 : Nat) : Int)))
              have HRT2 := Lib.hid (show trL G a lim cols ((List.range rn).drop (y + 1)) (G (cols ++ [(y : Int)]) { t with left := t.left - 1 }) = R by have := HRT.out; rwa [if_neg h0] at this)
              clear h1 K1 HRT
              go_wp2_with (fail)
              refine hnode.mono ?_
              rintro e w2 ⟨rfl, rfl⟩
              generalize W.setCell ⟨w0.heap.size + 1, 0, none⟩ (.int .i64 ((t.left - 1 : Nat) : Int)) = W2 at *
              have H2 := Lib.hid h2
              have HK2 := Lib.hid K2
              clear hnode h2 K2
              go_wp2
              go_cut [] (fun wx => ∃ C5 c5, ITr w0 wx M rn (some ad) sc a lim C5 (m1 + 1) c5 FA1 fn1 fk1 ((t.left - 1 : Nat) : Int) t.spent (fun z => memB (symT a (cols ++ [(y : Int)])) (z : Nat)) (cols ++ [(y : Int)]) vs1 t.found ∧ Kc M w wx C C5 FA FA1)
              case first =>
                obtain ⟨-, x4, x5, -⟩ := H2.out.cells
                have hM3 := H2.out.M3
                refine wp_region_held_drew (S := fun w' => w'.cell? ⟨w0.heap.size + 1, 5, none⟩ = some (.slice (some ⟨w0.heap.size, 0, none⟩) rn rn)) (by kernel_rfl) (by simpa using x5) ?_
                intro hS
                refine wpAnyH_take (i := 0) (v := ?_) rfl (by kernel_rfl) (by kernel_rfl) (by kernel_rfl) (fun _ _ _ h => h) (Or.inl ⟨by rfl, ?_⟩) (by assumption) ?_
                rotate_left
                · (intro w hSw; (try dsimp only at hSw); go_simp; (try with_reducible rfl))
                simp only [Act.put, List.setIfInBounds_toArray, List.set_cons_zero, List.set_cons_succ]
                refine wpAnyH_take (i := 1) (v := ?_) rfl (by kernel_rfl) (by kernel_rfl) (by kernel_rfl) (fun _ _ _ h => h) (Or.inl ⟨by rfl, ?_⟩) (by assumption) ?_
                rotate_left
                · (intro w hSw; (try dsimp only at hSw); go_simp; (try with_reducible rfl))
                simp only [Act.put, List.setIfInBounds_toArray, List.set_cons_zero, List.set_cons_succ]
                refine wpAnyH_take (i := 2) (v := ?_) rfl (by kernel_rfl) (by kernel_rfl) (by kernel_rfl) (fun _ _ _ h => h) (Or.inl ⟨by rfl, ?_⟩) (by assumption) ?_
                rotate_left
                · (intro w hSw; (try dsimp only at hSw); go_simp; (try with_reducible rfl))
                simp only [Act.put, List.setIfInBounds_toArray, List.set_cons_zero, List.set_cons_succ]
                refine wpAnyH_take (i := 3) (v := ?_) rfl (by kernel_rfl) (by kernel_rfl) (by kernel_rfl) (fun _ _ _ h => h) (Or.inl ⟨by rfl, ?_⟩) (by assumption) ?_
                rotate_left
                · (intro w hSw; (try dsimp only at hSw); go_simp; (try with_reducible rfl))
                simp only [Act.put, List.setIfInBounds_toArray, List.set_cons_zero, List.set_cons_succ]
                refine wpAnyH_take (i := 4) (v := ?_) rfl (by kernel_rfl) (by kernel_rfl) (by kernel_rfl) (fun _ _ _ h => h) (Or.inl ⟨by rfl, ?_⟩) (by assumption) ?_
                rotate_left
                · (intro w hSw; (try dsimp only at hSw); go_simp; (try with_reducible rfl))
                simp only [Act.put, List.setIfInBounds_toArray, List.set_cons_zero, List.set_cons_succ]
                refine wpAnyH_take (i := 5) (v := ?_) rfl (by kernel_rfl) (by kernel_rfl) (by kernel_rfl) (fun _ _ _ h => h) (Or.inl ⟨by rfl, ?_⟩) (by assumption) ?_
                rotate_left
                · (intro w hSw; (try dsimp only at hSw); go_simp; (try with_reducible rfl))
                simp only [Act.put, List.setIfInBounds_toArray, List.set_cons_zero, List.set_cons_succ]
                refine wpAnyH_take (i := 6) (v := ?_) rfl (by kernel_rfl) (by kernel_rfl) (by kernel_rfl) (fun _ _ _ h => h) (Or.inl ⟨by rfl, ?_⟩) (by assumption) ?_
                rotate_left
                · (intro w hSw; (try dsimp only at hSw); go_simp; (try with_reducible rfl))
                simp only [Act.put, List.setIfInBounds_toArray, List.set_cons_zero, List.set_cons_succ]
                refine wpAnyH_take (i := 7) (v := ?_) rfl (by kernel_rfl) (by kernel_rfl) (by kernel_rfl) (fun _ _ _ h => h) (Or.inl ⟨by rfl, ?_⟩) (by assumption) ?_
                rotate_left
                · (intro w hSw; (try dsimp only at hSw); go_simp; (try with_reducible rfl))
                simp only [Act.put, List.setIfInBounds_toArray, List.set_cons_zero, List.set_cons_succ]
                refine wpAnyH_take (i := 8) (v := ?_) rfl (by kernel_rfl) (by kernel_rfl) (by kernel_rfl) (fun _ _ _ h => h) (Or.inl ⟨by rfl, ?_⟩) (by assumption) ?_
                rotate_left
                · (intro w hSw; (try dsimp only at hSw); go_simp; (try with_reducible rfl))
                simp only [Act.put, List.setIfInBounds_toArray, List.set_cons_zero, List.set_cons_succ]
                refine wpAnyH_take (i := 10) (v := ?_) rfl (by kernel_rfl) (by kernel_rfl) (by kernel_rfl) (fun _ _ _ h => h) (Or.inl ⟨by rfl, ?_⟩) (by assumption) ?_
                rotate_left
                · (intro w hSw; (try dsimp only at hSw); go_simp; (try with_reducible rfl))
                simp only [Act.put, List.setIfInBounds_toArray, List.set_cons_zero, List.set_cons_succ]
                have hdr : Below W2.heap.size W2 W2.drew := by have := below_drewn W2 1; rwa [← World.drew_is_drewN] at this
                have H3 := Lib.hid (H2.out.below hdr)
                have HK3 := Lib.hid (HK2.out.trans (Kc.of_below (C := C1) (FA := FA1) hdr))
                have hyi : I64 (y : Int) := by unfold I64; omega
                have x5a := below_cell (below_alloc W2.drew (.cells #[.int .i64 (y : Int)] 2)) hS
                refine wpAnyH_ready (rs := [9, 11]) (by kernel_rfl) (by simp) ?_
                refine AllReadyH.cons rfl (fun K hK => ?_) (AllReadyH.cons rfl (fun K hK => ?_) AllReadyH.nil)
                · go_simp
                  refine hK.out _ _ hS (fun hS1 => ?_)
                  clear hK K
                  refine wpAnyH_ready (rs := [11]) (by kernel_rfl) (by simp) ?_
                  refine AllReadyH.cons rfl (fun K hK => ?_) AllReadyH.nil
                  go_simp
                  refine hK.out _ _ x5a (fun hS2 => ?_)
                  clear hK K hS1
                  refine wpAnyH_ready (rs := [12]) (by kernel_rfl) (by simp) ?_
                  refine AllReadyH.cons rfl (fun K hK => ?_) AllReadyH.nil
                  refine step_of_list (by rfl) ?_
                  refine app_int _ (by rfl) (.tmp 77) (.tmp 79) (by rfl) M C1 m1 mc1 cols (by rfl) H3.out.c (y : Int) W2.drew.heap.size (by rfl) rfl hyi (by omega) H3.out.M3 ?_
                  intro C5 c5 w5 ho5 hg5 hf5
                  have hX5 := (H3.out.grow hg5 (fun k hk => H3.out.c.os.lt hk)).1
                  refine list_onlyK ?_
                  refine hK.out _ _ (hX5.cell 5) (fun hS3 => ?_)
                  clear hK K hS2
                  refine wpAnyH_take (i := 13) (v := ?_) rfl (by kernel_rfl) (by kernel_rfl) (by kernel_rfl) (fun _ _ _ h => h) (Or.inl ⟨by rfl, ?_⟩) (by assumption) ?_
                  rotate_left
                  · (intro w hSw; (try dsimp only at hSw); go_simp; (try with_reducible rfl))
                  simp only [Act.put, List.setIfInBounds_toArray, List.set_cons_zero, List.set_cons_succ]
                  refine wpAnyH_take (i := 14) (v := ?_) rfl (by kernel_rfl) (by kernel_rfl) (by kernel_rfl) (fun _ _ _ h => h) (Or.inl ⟨by rfl, ?_⟩) (by assumption) ?_
                  rotate_left
                  · (intro w hSw; (try dsimp only at hSw); go_simp; (try with_reducible rfl))
                  simp only [Act.put, List.setIfInBounds_toArray, List.set_cons_zero, List.set_cons_succ]
                  have z4 := hX5.frozen 4
                  have q4 := hX5.cell 4
                  have H5 := Lib.hid (H3.out.push (cols' := cols ++ [(y : Int)]) hg5 ho5 hf5)
                  have HK5 := Lib.hid (HK3.out.trans ((Kc.grownC (M := M) (FA := FA1) hg5 hf5).trans (Kc.set (C := C5) (FA := FA1) (p := ⟨w0.heap.size + 1, 4, none⟩) (by have := HM.out; show w0.heap.size + 1 < M; omega) (.slice C5 (m1 + 1) c5))))
                  clear ho5 hg5 hf5 hX5
                  refine wpAnyH_ready (rs := [15]) (by kernel_rfl) (by simp) ?_
                  refine AllReadyH.cons rfl (fun K hK => ?_) AllReadyH.nil
                  go_simp
                  refine hK.out _ _ ((H5.out.x.cell 5)) (fun hS4 => ?_)
                  clear hK K hS3 z4 q4
                  refine wpAnyH_take (i := 16) (v := ?_) rfl (by kernel_rfl) (by kernel_rfl) (by kernel_rfl) (fun _ _ _ h => h) (Or.inl ⟨by rfl, ?_⟩) (by assumption) ?_
                  rotate_left
                  · (intro w hSw; (try dsimp only at hSw); go_simp; (try with_reducible rfl))
                  simp only [Act.put, List.setIfInBounds_toArray, List.set_cons_zero, List.set_cons_succ]
                  obtain ⟨gd, had, q6, z6⟩ := H5.out.d.cell (flags_at (f := fun z => memB (symT a cols) (z : Nat)) hqn)
                  injection had with had
                  injection had with had
                  subst had
                  have H6 := Lib.hid (H5.out.flag (dn' := fun z => memB (symT a (cols ++ [(y : Int)])) (z : Nat)) q true (fun x _ => flag_on a cols (by rw [hcl]; exact hqz) x))
                  have HK6 := Lib.hid (HK5.out.trans (Kc.set (C := C5) (FA := FA1) (p := ⟨w0.heap.size, q, none⟩) (by have := HM.out; show w0.heap.size < M; omega) (.bool true)))
                  refine wpAnyH_ready (rs := [17]) (by kernel_rfl) (by simp) ?_
                  refine AllReadyH.cons rfl (fun K hK => ?_) AllReadyH.nil
                  go_simp
                  refine hK.out _ _ ((H6.out.x.cell 5)) (fun hS5 => ?_)
                  clear hK K hS4
                  refine wpAnyH_done (by kernel_rfl) ?_ _
                  go_wp2
                  go_meet
                  exact ⟨C5, c5, H6.out, HK6.out⟩
                · go_simp
                  refine hK.out _ _ x5a (fun hS1 => ?_)
                  clear hK K
                  have x4a := below_cell (below_alloc W2 (.cells #[.int .i64 (y : Int)] 2)) x4
                  refine wpAnyH_ready (rs := [9]) (by kernel_rfl) (by simp) ?_
                  refine AllReadyH.cons rfl (fun K hK => ?_) AllReadyH.nil
                  go_simp
                  refine hK.out _ _ hS1 (fun hS2 => ?_)
                  clear hK K hS1
                  refine wpAnyH_ready (rs := [12]) (by kernel_rfl) (by simp) ?_
                  refine AllReadyH.cons rfl (fun K hK => ?_) AllReadyH.nil
                  refine step_of_list (by rfl) ?_
                  refine app_int _ (by rfl) (.tmp 77) (.tmp 79) (by rfl) M C1 m1 mc1 cols (by rfl) H3.out.c (y : Int) W2.drew.heap.size (by rfl) rfl hyi (by omega) H3.out.M3 ?_
                  intro C5 c5 w5 ho5 hg5 hf5
                  have hX5 := (H3.out.grow hg5 (fun k hk => H3.out.c.os.lt hk)).1
                  refine list_onlyK ?_
                  refine hK.out _ _ (hX5.cell 5) (fun hS3 => ?_)
                  clear hK K hS2
                  refine wpAnyH_take (i := 13) (v := ?_) rfl (by kernel_rfl) (by kernel_rfl) (by kernel_rfl) (fun _ _ _ h => h) (Or.inl ⟨by rfl, ?_⟩) (by assumption) ?_
                  rotate_left
                  · (intro w hSw; (try dsimp only at hSw); go_simp; (try with_reducible rfl))
                  simp only [Act.put, List.setIfInBounds_toArray, List.set_cons_zero, List.set_cons_succ]
                  refine wpAnyH_take (i := 14) (v := ?_) rfl (by kernel_rfl) (by kernel_rfl) (by kernel_rfl) (fun _ _ _ h => h) (Or.inl ⟨by rfl, ?_⟩) (by assumption) ?_
                  rotate_left
                  · (intro w hSw; (try dsimp only at hSw); go_simp; (try with_reducible rfl))
                  simp only [Act.put, List.setIfInBounds_toArray, List.set_cons_zero, List.set_cons_succ]
                  have z4 := hX5.frozen 4
                  have q4 := hX5.cell 4
                  have H5 := Lib.hid (H3.out.push (cols' := cols ++ [(y : Int)]) hg5 ho5 hf5)
                  have HK5 := Lib.hid (HK3.out.trans ((Kc.grownC (M := M) (FA := FA1) hg5 hf5).trans (Kc.set (C := C5) (FA := FA1) (p := ⟨w0.heap.size + 1, 4, none⟩) (by have := HM.out; show w0.heap.size + 1 < M; omega) (.slice C5 (m1 + 1) c5))))
                  clear ho5 hg5 hf5 hX5
                  refine wpAnyH_ready (rs := [15]) (by kernel_rfl) (by simp) ?_
                  refine AllReadyH.cons rfl (fun K hK => ?_) AllReadyH.nil
                  go_simp
                  refine hK.out _ _ ((H5.out.x.cell 5)) (fun hS4 => ?_)
                  clear hK K hS3 z4 q4
                  refine wpAnyH_take (i := 16) (v := ?_) rfl (by kernel_rfl) (by kernel_rfl) (by kernel_rfl) (fun _ _ _ h => h) (Or.inl ⟨by rfl, ?_⟩) (by assumption) ?_
                  rotate_left
                  · (intro w hSw; (try dsimp only at hSw); go_simp; (try with_reducible rfl))
                  simp only [Act.put, List.setIfInBounds_toArray, List.set_cons_zero, List.set_cons_succ]
                  obtain ⟨gd, had, q6, z6⟩ := H5.out.d.cell (flags_at (f := fun z => memB (symT a cols) (z : Nat)) hqn)
                  injection had with had
                  injection had with had
                  subst had
                  have H6 := Lib.hid (H5.out.flag (dn' := fun z => memB (symT a (cols ++ [(y : Int)])) (z : Nat)) q true (fun x _ => flag_on a cols (by rw [hcl]; exact hqz) x))
                  have HK6 := Lib.hid (HK5.out.trans (Kc.set (C := C5) (FA := FA1) (p := ⟨w0.heap.size, q, none⟩) (by have := HM.out; show w0.heap.size < M; omega) (.bool true)))
                  refine wpAnyH_ready (rs := [17]) (by kernel_rfl) (by simp) ?_
                  refine AllReadyH.cons rfl (fun K hK => ?_) AllReadyH.nil
                  go_simp
                  refine hK.out _ _ ((H6.out.x.cell 5)) (fun hS5 => ?_)
                  clear hK K hS4
                  refine wpAnyH_done (by kernel_rfl) ?_ _
                  go_wp2
                  go_meet
                  exact ⟨C5, c5, H6.out, HK6.out⟩
              case rest =>
                obtain ⟨C5, c5, h5, k5⟩ := hcut
                clear H2 HK2
                go_wp2_with (fail)
                refine (HSUB.out _ { t with left := t.left - 1 } (cols ++ [(y : Int)]) C5 FA1 (by have := HCL.out; simp; omega) HTS.out HLT2.out (by dsimp only; omega) ⟨_, _, _, _, _, h5⟩).mono ?_
                rintro e w7 ⟨rfl, C7, FA7, ⟨m7, mc7, fn7, fk7, vs7, h7⟩, k7⟩
                rw [hG] at h7
                have HT7 := Lib.hid (HSL.out (cols ++ [(y : Int)]) { t with left := t.left - 1 } HLT2.out (by dsimp only; omega))
                generalize G (cols ++ [(y : Int)]) { t with left := t.left - 1 } = T7 at *
                obtain rfl : m7 = m1 + 1 := by have := h7.c.len; rw [List.length_append, List.length_singleton, hcl] at this; omega
                obtain ⟨gC, rfl, hgC, hgC'⟩ := h7.c.os.form (Nat.succ_pos _)
                have hcap := h7.c.os.cap
                have hcap1 : m1 ≤ mc7 := by omega
                obtain ⟨-, x4, x5, -⟩ := h7.cells
                have HK7 := Lib.hid (k5.trans k7)
                have H7 := Lib.hid h7
                clear h5 k5 h7 k7
                go_wp2
                have hdr : Below w7.heap.size w7 w7.drew := by have := below_drewn w7 1; rwa [← World.drew_is_drewN] at this
                have H8 := Lib.hid (H7.out.below hdr)
                have HK8 := Lib.hid (HK7.out.trans (Kc.of_below (C := some ⟨gC, 0, none⟩) (FA := FA7) hdr))
                have z4 := H8.out.x.frozen 4
                refine wp_region_held_drew (S := fun w' => w'.cell? ⟨w0.heap.size + 1, 5, none⟩ = some (.slice (some ⟨w0.heap.size, 0, none⟩) rn rn)) (by kernel_rfl) (by simpa using x5) ?_
                intro hS
                refine wpAnyH_take (i := 0) (v := ?_) rfl (by kernel_rfl) (by kernel_rfl) (by kernel_rfl) (fun _ _ _ h => h) (Or.inl ⟨by rfl, ?_⟩) (by assumption) ?_
                rotate_left
                · (intro w hSw; (try dsimp only at hSw); go_simp; (try with_reducible rfl))
                simp only [Act.put, List.setIfInBounds_toArray, List.set_cons_zero, List.set_cons_succ]
                refine wpAnyH_take (i := 1) (v := ?_) rfl (by kernel_rfl) (by kernel_rfl) (by kernel_rfl) (fun _ _ _ h => h) (Or.inl ⟨by rfl, ?_⟩) (by assumption) ?_
                rotate_left
                · (intro w hSw; (try dsimp only at hSw); go_simp; (try with_reducible rfl))
                simp only [Act.put, List.setIfInBounds_toArray, List.set_cons_zero, List.set_cons_succ]
                refine wpAnyH_take (i := 2) (v := ?_) rfl (by kernel_rfl) (by kernel_rfl) (by kernel_rfl) (fun _ _ _ h => h) (Or.inl ⟨by rfl, ?_⟩) (by assumption) ?_
                rotate_left
                · (intro w hSw; (try dsimp only at hSw); go_simp; (try with_reducible rfl))
                simp only [Act.put, List.setIfInBounds_toArray, List.set_cons_zero, List.set_cons_succ]
                refine wpAnyH_take (i := 3) (v := ?_) rfl (by kernel_rfl) (by kernel_rfl) (by kernel_rfl) (fun _ _ _ h => h) (Or.inl ⟨by rfl, ?_⟩) (by assumption) ?_
                rotate_left
                · (intro w hSw; (try dsimp only at hSw); go_simp; (try with_reducible rfl))
                simp only [Act.put, List.setIfInBounds_toArray, List.set_cons_zero, List.set_cons_succ]
                refine wpAnyH_take (i := 4) (v := ?_) rfl (by kernel_rfl) (by kernel_rfl) (by kernel_rfl) (fun _ _ _ h => h) (Or.inl ⟨by rfl, ?_⟩) (by assumption) ?_
                rotate_left
                · (intro w hSw; (try dsimp only at hSw); go_simp; (try with_reducible rfl))
                simp only [Act.put, List.setIfInBounds_toArray, List.set_cons_zero, List.set_cons_succ]
                refine wpAnyH_take (i := 5) (v := ?_) rfl (by kernel_rfl) (by kernel_rfl) (by kernel_rfl) (fun _ _ _ h => h) (Or.inl ⟨by rfl, ?_⟩) (by assumption) ?_
                rotate_left
                · (intro w hSw; (try dsimp only at hSw); go_simp; (try with_reducible rfl))
                simp only [Act.put, List.setIfInBounds_toArray, List.set_cons_zero, List.set_cons_succ]
                refine wpAnyH_take (i := 6) (v := ?_) rfl (by kernel_rfl) (by kernel_rfl) (by kernel_rfl) (fun _ _ _ h => h) (Or.inl ⟨by rfl, ?_⟩) (by assumption) ?_
                rotate_left
                · (intro w hSw; (try dsimp only at hSw); go_simp; (try with_reducible rfl))
                simp only [Act.put, List.setIfInBounds_toArray, List.set_cons_zero, List.set_cons_succ]
                refine wpAnyH_take (i := 7) (v := ?_) rfl (by kernel_rfl) (by kernel_rfl) (by kernel_rfl) (fun _ _ _ h => h) (Or.inl ⟨by rfl, ?_⟩) (by assumption) ?_
                rotate_left
                · (intro w hSw; (try dsimp only at hSw); go_simp; (try with_reducible rfl))
                simp only [Act.put, List.setIfInBounds_toArray, List.set_cons_zero, List.set_cons_succ]
                refine wpAnyH_take (i := 8) (v := ?_) rfl (by kernel_rfl) (by kernel_rfl) (by kernel_rfl) (fun _ _ _ h => h) (Or.inl ⟨by rfl, ?_⟩) (by assumption) ?_
                rotate_left
                · (intro w hSw; (try dsimp only at hSw); go_simp; (try with_reducible rfl))
                simp only [Act.put, List.setIfInBounds_toArray, List.set_cons_zero, List.set_cons_succ]
                refine wpAnyH_take (i := 10) (v := ?_) rfl (by kernel_rfl) (by kernel_rfl) (by kernel_rfl) (fun _ _ _ h => h) (Or.inl ⟨by rfl, ?_⟩) (by assumption) ?_
                rotate_left
                · (intro w hSw; (try dsimp only at hSw); go_simp; (try with_reducible rfl))
                simp only [Act.put, List.setIfInBounds_toArray, List.set_cons_zero, List.set_cons_succ]
                refine wpAnyH_ready (rs := [9]) (by kernel_rfl) (by simp) ?_
                refine AllReadyH.cons rfl (fun K hK => ?_) AllReadyH.nil
                go_simp
                refine hK.out _ _ hS (fun hS1 => ?_)
                clear hK K
                refine wpAnyH_ready (rs := [11]) (by kernel_rfl) (by simp) ?_
                refine AllReadyH.cons rfl (fun K hK => ?_) AllReadyH.nil
                go_simp
                refine hK.out _ _ hS (fun hS2 => ?_)
                clear hK K hS1
                refine wpAnyH_take (i := 12) (v := ?_) rfl (by kernel_rfl) (by kernel_rfl) (by kernel_rfl) (fun _ _ _ h => h) (Or.inl ⟨by rfl, ?_⟩) (by assumption) ?_
                rotate_left
                · (intro w hSw; (try dsimp only at hSw); go_simp; (try with_reducible rfl))
                simp only [Act.put, List.setIfInBounds_toArray, List.set_cons_zero, List.set_cons_succ]
                refine wpAnyH_take (i := 13) (v := ?_) rfl (by kernel_rfl) (by kernel_rfl) (by kernel_rfl) (fun _ _ _ h => h) (Or.inl ⟨by rfl, ?_⟩) (by assumption) ?_
                rotate_left
                · (intro w hSw; (try dsimp only at hSw); go_simp; (try with_reducible rfl))
                simp only [Act.put, List.setIfInBounds_toArray, List.set_cons_zero, List.set_cons_succ]
                have q4 := H8.out.x.cell 4
                have H9 := Lib.hid (H8.out.pop)
                have HK9 := Lib.hid (HK8.out.trans (Kc.set (C := some ⟨gC, 0, none⟩) (FA := FA7) (p := ⟨w0.heap.size + 1, 4, none⟩) (by have := HM.out; show w0.heap.size + 1 < M; omega) (.slice (some ⟨gC, 0, none⟩) m1 mc7)))
                refine wpAnyH_ready (rs := [14]) (by kernel_rfl) (by simp) ?_
                refine AllReadyH.cons rfl (fun K hK => ?_) AllReadyH.nil
                go_simp
                refine hK.out _ _ (H9.out.x.cell 5) (fun hS4 => ?_)
                clear hK K hS2 z4 q4
                refine wpAnyH_take (i := 15) (v := ?_) rfl (by kernel_rfl) (by kernel_rfl) (by kernel_rfl) (fun _ _ _ h => h) (Or.inl ⟨by rfl, ?_⟩) (by assumption) ?_
                rotate_left
                · (intro w hSw; (try dsimp only at hSw); go_simp; (try with_reducible rfl))
                simp only [Act.put, List.setIfInBounds_toArray, List.set_cons_zero, List.set_cons_succ]
                obtain ⟨gd, had, q6, z6⟩ := (H7.out.pop).d.cell (flags_at (f := fun z => memB (symT a (cols ++ [(y : Int)])) (z : Nat)) hqn)
                injection had with had
                injection had with had
                subst had
                have H10 := Lib.hid (H9.out.flag (dn' := fun z => memB (symT a cols) (z : Nat)) q false (fun x _ => flag_off a cols (by rw [hcl]; exact hqz) HC2.out x))
                have HK10 := Lib.hid (HK9.out.trans (Kc.set (C := some ⟨gC, 0, none⟩) (FA := FA7) (p := ⟨w0.heap.size, q, none⟩) (by have := HM.out; show w0.heap.size < M; omega) (.bool false)))
                refine wpAnyH_ready (rs := [16]) (by kernel_rfl) (by simp) ?_
                refine AllReadyH.cons rfl (fun K hK => ?_) AllReadyH.nil
                go_simp
                refine hK.out _ _ (H10.out.x.cell 5) (fun hS5 => ?_)
                clear hK K hS4
                refine wpAnyH_done (by kernel_rfl) ?_ _
                go_wp2
                go_roundw
                case rel => exact ⟨y + 1, T7, some ⟨gC, 0, none⟩, FA7, by omega, by go_num, ⟨_, _, _, _, _, H10.out⟩, HK10.out, HRT2.out, HT7.out⟩
                case measure => simp [intOf]; omega
    · obtain rfl : y = rn := by omega
      rw [drop_range_all, trL] at hT
      go_wp2
      go_end0
      exact ⟨rfl, C1, FA1, hT ▸ hS, hK⟩
end Go.Proofs.Ytcnjlkabdfcjdaa
