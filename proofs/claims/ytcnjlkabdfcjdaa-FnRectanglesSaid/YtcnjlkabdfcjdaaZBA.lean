/- The search for completions: a node. No condition beyond those stated. -/
import Derived.Test.YtcnjlkabdfcjdaaZAZ
import Derived.Test.YtcnjlkabdfcjdaaZAN
import Derived.Test.YtcnjlkabdfcjdaaZAK
import Derived.Deep.DeepCutAuto
import Derived.Test.YtcnjlkabdfcjdaaZAY
set_option linter.unusedVariables false
set_option linter.unusedSimpArgs false
namespace Go.Proofs.Ytcnjlkabdfcjdaa
open Go.RowKit

/-- the search below a node -/
def SubC (w0 : World) (g D M n : Nat) (SA : Option Addr) (sc : Nat) (CA : Option Addr) (m mc lim : Nat) (vs : List Sl) (cs rem : List Nat) : Prop :=
  ∀ (w : World) (p : List (List Int)) (FA : Option Addr) (fn fk : Nat) (s : CSt) (k : Nat), k + rem.length = m → cs.drop k = rem → PSq n p → empP n p = rem → s.spent = false → s.count < lim → s.left ≤ 20000 →
    ICl w0 w g D M n SA sc CA m mc lim vs cs p FA fn fk s →
    Calls Try.prog 81 #[.pointer (some ⟨g, 0, none⟩), .int .i64 k] w (RetCl w0 w g D M n SA sc CA m mc lim vs cs p (clS n lim rem p s))
theorem natsI_at {l : List Nat} {k c : Nat} (h : l[k]? = some c) : nth (natsI l) k = (c : Int) := by
  refine nth_eq ?_
  simp [natsI, h]
theorem drop_cons_at {l : List Nat} {k c : Nat} {r : List Nat} (h : l.drop k = c :: r) : l[k]? = some c ∧ l.drop (k + 1) = r := by
  have h1 : l[k]? = some c := by
    have := congrArg (fun x => x[0]?) h
    simpa using this
  refine ⟨h1, ?_⟩
  have := congrArg List.tail h
  simpa using this
theorem drop_int {l : List Int} {i : Nat} (h : i < l.length) : l.drop i = nth l i :: l.drop (i + 1) := by
  rw [List.drop_eq_getElem_cons h, nth_get h]
theorem psq_cells {n : Nat} {p : List (List Int)} (h : PSq n p) (hn : n ≤ 10) : cells p ≤ 1099511627776 := by
  have h1 := cells_under (l := p) (k := n) (fun r hr => by rw [h.rows r hr]; exact Nat.le_refl _)
  rw [h.len] at h1
  have := Nat.mul_le_mul hn hn
  omega
set_option maxRecDepth 100000 in
set_option maxHeartbeats 4000000 in
theorem searchC_step (w0 : World) (g D M n : Nat) (SA : Option Addr) (sc : Nat) (CA : Option Addr) (m mc lim : Nat) (vs : List Sl) (cs : List Nat) (c : Nat) (rem : List Nat) (hn : n ≤ 10) (hlim : lim ≤ 1000) (hsub : SubC w0 g D M n SA sc CA m mc lim vs cs rem) :
    SubC w0 g D M n SA sc CA m mc lim vs cs (c :: rem) := by
  intro w p FA fn fk s k hk hdr hp he hsp hcn hsl h
  have hcl := psq_cells hp hn
  obtain ⟨hck, hdr2⟩ := drop_cons_at hdr
  have hc : c < n * n ∧ atS p (c / n) (c % n) = -1 := by
    have : c ∈ empP n p := by rw [he]; exact List.mem_cons_self
    obtain ⟨h1, h2⟩ := List.mem_filter.1 this
    exact ⟨List.mem_range.1 h1, by simpa using h2⟩
  obtain ⟨hxn, hyn⟩ := cell_bd hc.1
  have hrl := hp.row (c / n) hxn
  have HLE := Lib.hid (fun (r : List Int) (t : CSt) (h1 : t.count ≤ lim) (h2 : t.left ≤ 20000) => clL_le (lim := lim) (L := 20000) (p := p) (x := c / n) (y := c % n) (sub := clS n lim rem) (fun q s h1 h2 => clS_le rem q s h1 h2) r t h1 h2)
  have HSL := Lib.hid (fun (q : List (List Int)) (t : CSt) (h1 : t.count < lim) (h2 : t.left ≤ 20000) => clS_le (n := n) (lim := lim) (L := 20000) rem q t h1 h2)
  have HP2 := Lib.hid (fun (z : Int) (hz : z ∈ candP p (c / n) (c % n)) => (show PSq n (putS p (c / n) (c % n) z) ∧ empP n (putS p (c / n) (c % n) z) = rem from ⟨hp.put hxn hyn hz, emp_put hp he hz⟩))
  have HBK := Lib.hid (fun (z : Int) => putS_back (p := p) (z := z) (x := c / n) (y := c % n) (by rw [hp.len]; exact hxn) (by rw [hrl]; exact hyn) hc.2)
  have HZ := Lib.hid (fun (z : Int) (hz : z ∈ candP p (c / n) (c % n)) => (show 0 ≤ z ∧ z < (n : Int) by
    have := (candP_mem hp hxn).1 hz
    exact ⟨this.1, this.2.1⟩))
  have HROW := Lib.hid hrl
  have HRP := Lib.hid (fun (z : Int) => (show (row (putS p (c / n) (c % n) z) (c / n)).length = n by rw [row_putS (by rw [hp.len]; exact hxn), if_pos rfl, List.length_set]; exact hrl))
  have HLN := Lib.hid hp.len
  have HRW := Lib.hid (fun r (hr : r ∈ p) => (show c % n < r.length by rw [hp.rows r hr]; exact hyn))
  obtain ⟨R, hR⟩ : ∃ R, clS n lim (c :: rem) p s = R := ⟨_, rfl⟩
  rw [hR]
  have HR := Lib.hid (show clL (clS n lim rem) lim p (c / n) (c % n) ((candP p (c / n) (c % n)).drop 0) s = R by rw [List.drop_zero, ← hR, clS])
  have hcc : c < 100 := by have := Nat.mul_le_mul hn hn; omega
  have hn1 : 1 ≤ n := by omega
  have hq1 : wrap64 ((c : Int) / (n : Int)) = ((c / n : Nat) : Int) := by
    rw [show (c : Int) / (n : Int) = ((c / n : Nat) : Int) from rfl]
    have := hxn
    generalize c / n = d at this ⊢
    exact IntWalk.wrap64_in _ (by omega)
  have hq2 : Int.tmod (c : Int) (n : Int) = ((c % n : Nat) : Int) := rfl
  have HSUB := Lib.hid hsub
  have HCN := Lib.hid hcn
  have HSP := Lib.hid hsp
  clear hR hsub hdr hp he hrl hc
  have hkm : k < m := by simp at hk; omega
  have hmb := h.c.os.cap
  have H0 := h.cells
  obtain ⟨⟨x0, x1, x2, x3⟩, x4, x5, x6⟩ := H0
  obtain ⟨gc, rfl, hcc1, -, -⟩ := h.c.cell hkm
  rw [natsI_at hck] at hcc1
  have HH := Lib.hid h
  have hrr := Lib.hid (OR.reads ⟨_, h.q.orv⟩)
  have hkm2 : ((k : Int) == (m : Int)) = false := by simp; omega
  have hcand := candidates_any SA n sc (c / n) (c % n) p
  clear h
  generalize c / n = x at *
  generalize c % n = y at *
  go_enter Try.func81, Try.ntmps81
  go_wp2_with (go_at_call 48; refine (sizeR_any _ _ _ _ (by omega)).mono ?_; rintro e w' ⟨rfl, rfl⟩)
  go_quiet (fail)
  rename_i nq

  have hdb := below_drewn w nq

  have H1 := HH.out.below hdb
  have hcand := hcand (w.drewN nq) (hrr.out.keep hdb) (by omega) hxn HRW.out
  have K1 := Mid.of_below hdb (Nat.le_refl _) w0.heap.size M
  generalize w.drewN nq = W1 at *
  obtain ⟨⟨x0, x1, x2, x3⟩, x4, x5, x6⟩ := H1.cells
  clear HH hrr hcc1 hdb
  go_wp2_with (go_at_call 54; refine hcand.mono ?_; rintro e w6 ⟨LA, ln, lc, rfl, hol, hb6⟩)
  have H6 := H1.below hb6
  have K6 := K1.trans (Mid.of_below hb6 (Nat.le_refl _) w0.heap.size M)
  have S6 : ∃ FA fn fk, ICl w0 w6 g D M n SA sc (some ⟨gc, 0, none⟩) m mc lim vs cs p FA fn fk s := ⟨FA, fn, fk, H6⟩
  have hol6 := hol.more H1.M3
  have hll := hol.len
  have hln : ln ≤ n := by
    rw [← hll]
    have := candTo_le p x y p.length
    rw [candTo_all] at this
    rw [HLN.out] at this
    exact this
  clear hcand H1 K1 x0 x1 x2 x3 x4 x5 x6 hq1 hq2 hb6 hol H6
  go_loopw [8, 67] (fun _ i wr => ∃ (j : Nat) (t : CSt), j ≤ ln ∧ i = .int .i64 j ∧ (∃ FA fn fk, ICl w0 wr g D M n SA sc (some ⟨gc, 0, none⟩) m mc lim vs cs p FA fn fk t) ∧ Mid w wr w0.heap.size M ∧ OI wr M 2 LA ln lc (candP p x y) ∧ clL (clS n lim rem) lim p x y ((candP p x y).drop j) t = R ∧ t.count ≤ lim ∧ t.left ≤ 20000) (fun _ i _ => ln - (intOf i).toNat)
  case atStart => exact ⟨0, s, Nat.zero_le _, rfl, S6, K6, hol6, HR.out, by have := HCN.out; omega, hsl⟩
  case round =>
    clear S6 K6 hol6 HR hsl hcn hsp
    obtain ⟨j, t, hj, rfl, ⟨FA1, fn1, fk1, h⟩, hK, hol, hT, htc, htl⟩ := hrel
    by_cases hlt : j < ln
    · obtain ⟨gl, rfl, hcz, -, hiz⟩ := hol.cell hlt
      rw [drop_int (by omega), clL] at hT
      have hzm : nth (candP p x y) j ∈ candP p x y := by rw [nth_get (by omega)]; exact List.getElem_mem _
      obtain ⟨hp2, he2⟩ := HP2.out _ hzm
      have hbk := HBK.out (nth (candP p x y) j)
      have hrp := HRP.out (nth (candP p x y) j)
      have hzz := HZ.out _ hzm
      have HT := Lib.hid hT
      have HO := Lib.hid hol
      have HJ := Lib.hid (And.intro htc htl)
      clear hT hzm hol
      generalize nth (candP p x y) j = z at *
      obtain ⟨tl, tsp, tct, tfi⟩ := t
      simp only [] at HT htc htl HJ
      have H0 := h.cells
      simp only [] at H0
      obtain ⟨⟨x0, x1, x2, x3⟩, x4, x5, x6⟩ := H0
      by_cases hstop : tct = lim ∨ tsp = true
      · have hR := HT.out
        rw [if_pos hstop] at hR
        have HRE := Lib.hid hR
        have HS := Lib.hid h
        have HK := Lib.hid hK
        have hcase : ((tct : Int) == (lim : Int)) = true ∨ (((tct : Int) == (lim : Int)) = false ∧ tsp = true) := by
          by_cases e : tct = lim
          · exact .inl (by simp [e])
          · exact .inr ⟨by simp; omega, hstop.resolve_left e⟩
        clear hstop hR HT h hK
        rcases hcase with hc1 | ⟨hc1, rfl⟩
        · go_wp2
          go_quiet (fail)
          go_wp2
          go_end0
          exact ⟨rfl, HRE.out ▸ ⟨_, _, _, HS.out.below (below_drewn _ _)⟩, HK.out.trans (Mid.of_below (below_drewn _ _) (Nat.le_refl _) _ _)⟩
        · go_wp2
          go_quiet (fail)
          go_wp2
          go_end0
          exact ⟨rfl, HRE.out ▸ ⟨_, _, _, HS.out.below (below_drewn _ _)⟩, HK.out.trans (Mid.of_below (below_drewn _ _) (Nat.le_refl _) _ _)⟩
      · have hc1 : ((tct : Int) == (lim : Int)) = false := by simp; exact fun e => hstop (.inl (by omega))
        have htsp : tsp = false := by
          cases tsp with
          | false => rfl
          | true => exact absurd (.inr rfl) hstop
        subst htsp
        have hR := HT.out
        rw [if_neg hstop] at hR
        have hlt2 : tct < lim := by
          rcases Nat.lt_or_ge tct lim with e | e
          · exact e
          · exact absurd (.inl (by omega)) hstop
        have hdr : Below wr.heap.size wr wr.drew := by have := below_drewn wr 1; rwa [← World.drew_is_drewN] at this
        have h2 := h.below hdr
        have K2 := hK.trans (Mid.of_below hdr (Nat.le_refl _) w0.heap.size M)
        have ho2 := HO.out.below hdr
        have hcz2 := below_cell hdr hcz
        clear hstop HT h hK HO
        go_wp2
        clear hcz
        refine wp_region_held_drew (S := fun w' => w'.cell? ⟨g, 5, none⟩ = some (.int .i64 (tct : Int)) ∧ w'.cell? ⟨g, 4, none⟩ = some (.int .i64 (lim : Int))) (by kernel_rfl) (by simpa using ⟨x5, x4⟩) ?_
        intro hS
        generalize wr.drew = W2 at *
        refine wpAnyH_take (i := 0) (v := ?_) rfl (by kernel_rfl) (by kernel_rfl) (by kernel_rfl) (fun _ _ _ h => h) (Or.inl ⟨by rfl, ?_⟩) (by assumption) ?_
        rotate_left
        · (intro w hSw; (try dsimp only at hSw); go_simp; (try with_reducible rfl))
        simp only [Act.put, List.setIfInBounds_toArray, List.set_cons_zero, List.set_cons_succ]
        refine wpAnyH_take (i := 1) (v := ?_) rfl (by kernel_rfl) (by kernel_rfl) (by kernel_rfl) (fun _ _ _ h => h) (Or.inl ⟨by rfl, ?_⟩) (by assumption) ?_
        rotate_left
        · (intro w hSw; (try dsimp only at hSw); go_simp; (try with_reducible rfl))
        simp only [Act.put, List.setIfInBounds_toArray, List.set_cons_zero, List.set_cons_succ]
        refine wpAnyH_take (i := 2) (v := ?_) rfl (by kernel_rfl) (by kernel_rfl) (by kernel_rfl) (fun _ _ _ h => h) (Or.inl ⟨by rfl, ?_⟩) (by assumption) ?_
        rotate_left
        · (intro w hSw; (try dsimp only at hSw); go_simp; (try with_reducible rfl))
        simp only [Act.put, List.setIfInBounds_toArray, List.set_cons_zero, List.set_cons_succ]
        refine wpAnyH_take (i := 3) (v := ?_) rfl (by kernel_rfl) (by kernel_rfl) (by kernel_rfl) (fun _ _ _ h => h) (Or.inl ⟨by rfl, ?_⟩) (by assumption) ?_
        rotate_left
        · (intro w hSw; (try dsimp only at hSw); go_simp; (try with_reducible rfl))
        simp only [Act.put, List.setIfInBounds_toArray, List.set_cons_zero, List.set_cons_succ]
        refine wpAnyH_take (i := 4) (v := ?_) rfl (by kernel_rfl) (by kernel_rfl) (by kernel_rfl) (fun _ _ _ h => h) (Or.inl ⟨by rfl, ?_⟩) (by assumption) ?_
        rotate_left
        · (intro w hSw; (try dsimp only at hSw); go_simp; (try with_reducible rfl))
        simp only [Act.put, List.setIfInBounds_toArray, List.set_cons_zero, List.set_cons_succ]
        refine wpAnyH_take (i := 5) (v := ?_) rfl (by kernel_rfl) (by kernel_rfl) (by kernel_rfl) (fun _ _ _ h => h) (Or.inl ⟨by rfl, ?_⟩) (by assumption) ?_
        rotate_left
        · (intro w hSw; (try dsimp only at hSw); go_simp; (try with_reducible rfl))
        simp only [Act.put, List.setIfInBounds_toArray, List.set_cons_zero, List.set_cons_succ]
        refine wpAnyH_take (i := 6) (v := ?_) rfl (by kernel_rfl) (by kernel_rfl) (by kernel_rfl) (fun _ _ _ h => h) (Or.inl ⟨by rfl, ?_⟩) (by assumption) ?_
        rotate_left
        · (intro w hSw; (try dsimp only at hSw); go_simp; (try with_reducible rfl))
        simp only [Act.put, List.setIfInBounds_toArray, List.set_cons_zero, List.set_cons_succ]
        refine wpAnyH_take (i := 7) (v := ?_) rfl (by kernel_rfl) (by kernel_rfl) (by kernel_rfl) (fun _ _ _ h => h) (Or.inl ⟨by rfl, ?_⟩) (by assumption) ?_
        rotate_left
        · (intro w hSw; (try dsimp only at hSw); go_simp; (try with_reducible rfl))
        simp only [Act.put, List.setIfInBounds_toArray, List.set_cons_zero, List.set_cons_succ]
        refine wpAnyH_take (i := 8) (v := ?_) rfl (by kernel_rfl) (by kernel_rfl) (by kernel_rfl) (fun _ _ _ h => h) (Or.inl ⟨by rfl, ?_⟩) (by assumption) ?_
        rotate_left
        · (intro w hSw; (try dsimp only at hSw); go_simp; (try with_reducible rfl))
        simp only [Act.put, List.setIfInBounds_toArray, List.set_cons_zero, List.set_cons_succ]
        refine wpAnyH_take (i := 9) (v := ?_) rfl (by kernel_rfl) (by kernel_rfl) (by kernel_rfl) (fun _ _ _ h => h) (Or.inl ⟨by rfl, ?_⟩) (by assumption) ?_
        rotate_left
        · (intro w hSw; (try dsimp only at hSw); go_simp; (try with_reducible rfl))
        simp only [Act.put, List.setIfInBounds_toArray, List.set_cons_zero, List.set_cons_succ]
        simp only [List.getElem_toArray, List.getElem_cons_succ, List.getElem_cons_zero, Act.put, List.setIfInBounds_toArray, List.set_cons_zero, List.set_cons_succ]
        refine wpAnyH_take (i := 10) (v := ?_) rfl (by kernel_rfl) (by kernel_rfl) (by kernel_rfl) (fun _ _ _ h => h) (Or.inl ⟨by rfl, ?_⟩) (by assumption) ?_
        rotate_left
        · (intro w hSw; (try dsimp only at hSw); go_simp; (try with_reducible rfl))
        simp only [Act.put, List.setIfInBounds_toArray, List.set_cons_zero, List.set_cons_succ]
        refine wpAnyH_take (i := 11) (v := ?_) rfl (by kernel_rfl) (by kernel_rfl) (by kernel_rfl) (fun _ _ _ h => h) (Or.inl ⟨by rfl, ?_⟩) (by assumption) ?_
        rotate_left
        · (intro w hSw; (try dsimp only at hSw); go_simp; (try with_reducible rfl))
        simp only [Act.put, List.setIfInBounds_toArray, List.set_cons_zero, List.set_cons_succ]
        refine wpAnyH_take (i := 12) (v := ?_) rfl (by kernel_rfl) (by kernel_rfl) (by kernel_rfl) (fun _ _ _ h => h) (Or.inl ⟨by rfl, ?_⟩) (by assumption) ?_
        rotate_left
        · (intro w hSw; (try dsimp only at hSw); go_simp; (try with_reducible rfl))
        simp only [Act.put, List.setIfInBounds_toArray, List.set_cons_zero, List.set_cons_succ]
        refine wpAnyH_take (i := 13) (v := ?_) rfl (by kernel_rfl) (by kernel_rfl) (by kernel_rfl) (fun _ _ _ h => h) (Or.inl ⟨by rfl, ?_⟩) (by assumption) ?_
        rotate_left
        · (intro w hSw; (try dsimp only at hSw); go_simp; (try with_reducible rfl))
        simp only [Act.put, List.setIfInBounds_toArray, List.set_cons_zero, List.set_cons_succ]
        simp only [List.getElem_toArray, List.getElem_cons_succ, List.getElem_cons_zero, Act.put, List.setIfInBounds_toArray, List.set_cons_zero, List.set_cons_succ]
        have y1 : W2.cell? ⟨g, 1, none⟩ = some (.bool false) := h2.x.cell 1
        refine wpAnyH_ready (rs := [14]) (by kernel_rfl) (by simp) ?_
        refine AllReadyH.cons rfl (fun K hK => ?_) AllReadyH.nil
        go_simp
        refine hK.out _ _ hS (fun hS1 => ?_)
        clear hK K hS
        refine wpAnyH_take (i := 15) (v := ?_) rfl (by kernel_rfl) (by kernel_rfl) (by kernel_rfl) (fun _ _ _ h => h) (Or.inl ⟨by rfl, ?_⟩) (by assumption) ?_
        rotate_left
        · (intro w hSw; (try dsimp only at hSw); go_simp; (try with_reducible rfl))
        simp only [Act.put, List.setIfInBounds_toArray, List.set_cons_zero, List.set_cons_succ]
        refine wpAnyH_take (i := 16) (v := ?_) rfl (by kernel_rfl) (by kernel_rfl) (by kernel_rfl) (fun _ _ _ h => h) (Or.inl ⟨by rfl, ?_⟩) (by assumption) ?_
        rotate_left
        · (intro w hSw; (try dsimp only at hSw); go_simp; (try with_reducible rfl))
        simp only [Act.put, List.setIfInBounds_toArray, List.set_cons_zero, List.set_cons_succ]
        simp only [List.getElem_toArray, List.getElem_cons_succ, List.getElem_cons_zero, Act.put, List.setIfInBounds_toArray, List.set_cons_zero, List.set_cons_succ]
        refine wpAnyH_take (i := 17) (v := ?_) rfl (by kernel_rfl) (by kernel_rfl) (by kernel_rfl) (fun _ _ _ h => h) (Or.inl ⟨by rfl, ?_⟩) (by assumption) ?_
        rotate_left
        · (intro w hSw; (try dsimp only at hSw); go_simp; (try with_reducible rfl))
        simp only [Act.put, List.setIfInBounds_toArray, List.set_cons_zero, List.set_cons_succ]
        refine wpAnyH_take (i := 18) (v := ?_) rfl (by kernel_rfl) (by kernel_rfl) (by kernel_rfl) (fun _ _ _ h => h) (Or.inl ⟨by rfl, ?_⟩) (by assumption) ?_
        rotate_left
        · (intro w hSw; (try dsimp only at hSw); go_simp; (try with_reducible rfl))
        simp only [Act.put, List.setIfInBounds_toArray, List.set_cons_zero, List.set_cons_succ]
        refine wpAnyH_take (i := 19) (v := ?_) rfl (by kernel_rfl) (by kernel_rfl) (by kernel_rfl) (fun _ _ _ h => h) (Or.inl ⟨by rfl, ?_⟩) (by assumption) ?_
        rotate_left
        · (intro w hSw; (try dsimp only at hSw); go_simp; (try with_reducible rfl))
        simp only [Act.put, List.setIfInBounds_toArray, List.set_cons_zero, List.set_cons_succ]
        simp only [List.getElem_toArray, List.getElem_cons_succ, List.getElem_cons_zero, Act.put, List.setIfInBounds_toArray, List.set_cons_zero, List.set_cons_succ]
        have y0 : W2.cell? ⟨g, 0, none⟩ = some (.int .i64 (tl : Int)) := h2.x.cell 0
        have hnode := nodeC_any W2 g tl false y0 y1 (h2.x.frozen 0) (h2.x.frozen 1) (by omega)
        by_cases h0 : tl = 0
        · subst h0
          rw [if_pos rfl, show decide ((0 : Nat) ≠ 0) = false by simp] at hnode
          rw [if_pos rfl] at hR
          have H3 := Lib.hid (h2.spent_ true)
          have K3 := Lib.hid (K2.trans (h2.midg 1 (.bool true)))
          have s5 := H3.out.x.cell 5
          have s4 := H3.out.x.cell 4
          have HRE := Lib.hid hR
          clear hR h2 K2 ho2
          refine wpAnyH_ready (rs := [20]) (by kernel_rfl) (by simp) ?_
          refine AllReadyH.cons rfl (fun K hK => ?_) AllReadyH.nil
          go_simp
          refine hnode.mono ?_
          rintro e w3 ⟨rfl, rfl⟩
          dsimp only
          refine hK.out _ _ ⟨s5, s4⟩ (fun hS2 => ?_)
          clear hK K hS1
          refine wpAnyH_take (i := 21) (v := ?_) rfl (by kernel_rfl) (by kernel_rfl) (by kernel_rfl) (fun _ _ _ h => h) (Or.inl ⟨by rfl, ?_⟩) (by assumption) ?_
          rotate_left
          · (intro w hSw; (try dsimp only at hSw); go_simp; (try with_reducible rfl))
          simp only [Act.put, List.setIfInBounds_toArray, List.set_cons_zero, List.set_cons_succ]
          refine wpAnyH_take (i := 22) (v := ?_) rfl (by kernel_rfl) (by kernel_rfl) (by kernel_rfl) (fun _ _ _ h => h) (Or.inl ⟨by rfl, ?_⟩) (by assumption) ?_
          rotate_left
          · (intro w hSw; (try dsimp only at hSw); go_simp; (try with_reducible rfl))
          simp only [Act.put, List.setIfInBounds_toArray, List.set_cons_zero, List.set_cons_succ]
          simp only [List.getElem_toArray, List.getElem_cons_succ, List.getElem_cons_zero, Act.put, List.setIfInBounds_toArray, List.set_cons_zero, List.set_cons_succ]
          refine wpAnyH_done (by kernel_rfl) ?_ _
          go_wp2
          go_end0
          exact ⟨rfl, HRE.out ▸ ⟨_, _, _, H3.out⟩, K3.out⟩
        · rw [if_neg h0, show decide (tl ≠ 0) = true by simp [h0], show (tl : Int) - 1 = ((tl - 1 : Nat) : Int) by omega] at hnode
          rw [if_neg h0] at hR
          have H3 := Lib.hid (h2.left_ (tl - 1))
          have K3 := Lib.hid (K2.trans (h2.midg 0 (.int .i64 ((tl - 1 : Nat) : Int))))
          have s5 := H3.out.x.cell 5
          have s4 := H3.out.x.cell 4
          have s2 : (W2.setCell ⟨g, 0, none⟩ (.int .i64 ((tl - 1 : Nat) : Int))).cell? ⟨g, 2, none⟩ = some (.slice SA n sc) := H3.out.x.cell 2
          have ho3 := Lib.hid (ho2.mid (h2.midg 0 (.int .i64 ((tl - 1 : Nat) : Int))) (fun b hb => .inr (ho2.os.lt hb).1))
          have HRE := Lib.hid hR
          clear hR h2 K2 ho2
          refine wpAnyH_ready (rs := [20]) (by kernel_rfl) (by simp) ?_
          refine AllReadyH.cons rfl (fun K hK => ?_) AllReadyH.nil
          go_simp
          refine hnode.mono ?_
          rintro e w3 ⟨rfl, rfl⟩
          generalize W2.setCell ⟨g, 0, none⟩ (.int .i64 ((tl - 1 : Nat) : Int)) = W3 at *
          dsimp only
          refine hK.out _ _ ⟨s5, s4⟩ (fun hS2 => ?_)
          clear hK K hS1 hnode
          refine wpAnyH_take (i := 21) (v := ?_) rfl (by kernel_rfl) (by kernel_rfl) (by kernel_rfl) (fun _ _ _ h => h) (Or.inl ⟨by rfl, ?_⟩) (by assumption) ?_
          rotate_left
          · (intro w hSw; (try dsimp only at hSw); go_simp; (try with_reducible rfl))
          simp only [Act.put, List.setIfInBounds_toArray, List.set_cons_zero, List.set_cons_succ]
          refine wpAnyH_take (i := 22) (v := ?_) rfl (by kernel_rfl) (by kernel_rfl) (by kernel_rfl) (fun _ _ _ h => h) (Or.inl ⟨by rfl, ?_⟩) (by assumption) ?_
          rotate_left
          · (intro w hSw; (try dsimp only at hSw); go_simp; (try with_reducible rfl))
          simp only [Act.put, List.setIfInBounds_toArray, List.set_cons_zero, List.set_cons_succ]
          simp only [List.getElem_toArray, List.getElem_cons_succ, List.getElem_cons_zero, Act.put, List.setIfInBounds_toArray, List.set_cons_zero, List.set_cons_succ]
          refine wpAnyH_done (by kernel_rfl) ?_ _
          obtain ⟨gs, r, rm, rk, hat, hset⟩ := H3.out.cell hxn (y := y) (by have := HROW.out; omega)
          obtain ⟨rfl, co, fo, hm, mle, k1, ci, fi, br, rl, iz, -⟩ := hat
          obtain ⟨H4, K4⟩ := hset z (by unfold I64; omega)
          have H4 := Lib.hid H4
          have K4 := Lib.hid (K3.out.trans K4)
          have ho4 := Lib.hid (ho3.out.mid (hset z (by unfold I64; omega)).2 (fun b hb => .inr (ho3.out.os.lt hb).1))
          clear hset H3 K3 ho3
          have hsr := HSUB.out (W3.setCell ⟨r, y, none⟩ (.int .i64 z)) (putS p x y z) FA1 fn1 fk1 ⟨tl - 1, false, tct, tfi⟩ (k + 1) (by simp only [List.length_cons] at hk; omega) hdr2 hp2 he2 rfl hlt2 (by dsimp only; omega) H4.out
          rw [show ((k + 1 : Nat) : Int) = (k : Int) + 1 by omega] at hsr
          have HT7 := Lib.hid (HSL.out (putS p x y z) ⟨tl - 1, false, tct, tfi⟩ hlt2 (by dsimp only; omega))
          have hk64 : (k : Int) + 1 ≤ 9223372036854775807 := by omega
          have HBK7 := Lib.hid hbk
          have HRP7 := Lib.hid hrp
          have hyrm : y < rm := by have := HROW.out; omega
          clear H4 hS2 s4 s5 y0 y1 x0 x1 x3 x4 x5 x6 hcz2 hdr hbk hrp hm hp2 he2 hdr2 hck hc1 hll
          go_wp2_with (fail)
          refine hsr.mono ?_
          rintro e w7 ⟨rfl, ⟨FA7, fn7, fk7, h7⟩, K7⟩
          generalize clS n lim rem (putS p x y z) ⟨tl - 1, false, tct, tfi⟩ = T7 at *
          have x2 := h7.x.cell 2
          obtain ⟨gs7, r7, rm7, rk7, hat7, hset7⟩ := h7.cell hxn (y := y) (by rw [HRP7.out]; exact hyn)
          obtain ⟨hgs, co7, fo7, hm7, mle7, k17, ci7, fi7, br7, rl7, iz7, -⟩ := hat7
          injection hgs with hgs
          injection hgs with hgs
          subst hgs
          obtain ⟨H8, K8⟩ := hset7 (-1) (by unfold I64; omega)
          rw [HBK7.out] at H8
          have H8 := Lib.hid H8
          have ho8 := Lib.hid ((ho4.out.mid K7 (fun b hb => .inr (ho4.out.os.lt hb).1)).mid K8 (fun b hb => .inr (ho4.out.os.lt hb).1))
          have K8 := Lib.hid ((K4.out.trans K7).trans K8)
          have hy7 : y < rm7 := by have := HRP7.out; omega
          clear hset7 h7 K7 ho4 K4 hsr co fo ci fi
          go_wp2
          go_roundw
          case rel => exact ⟨j + 1, T7, by omega, by go_num, ⟨_, _, _, H8.out⟩, K8.out, ho8.out, HRE.out, HT7.out⟩
          case measure => simp [intOf]; omega
    · obtain rfl : j = ln := by omega
      rw [List.drop_eq_nil_of_le (by omega), clL] at hT
      go_wp2
      go_end0
      exact ⟨rfl, hT ▸ ⟨FA1, fn1, fk1, h⟩, hK⟩
end Go.Proofs.Ytcnjlkabdfcjdaa
/- Orthogonal squares; the transversals that belong to a mate. No condition beyond those stated. -/
namespace Go.Proofs.Ytcnjlkabdfcjdaa
open Go.RowKit

/-- only cells that came before are marked -/
def SeenC (n : Nat) (F : Nat → Nat → Int) (x y : Nat) (f : Nat → Bool) : Prop := ∀ v, f v = true → ∃ i j, i < n ∧ j < n ∧ (i < x ∨ (i = x ∧ j < y)) ∧ F i j = (v : Int)
theorem SeenC.put {n : Nat} {F : Nat → Nat → Int} {x y v : Nat} {f : Nat → Bool} (h : SeenC n F x y f) (hx : x < n) (hy : y < n) (hv : F x y = (v : Int)) : SeenC n F x (y + 1) (fun c => if c = v then true else f c) := fun u hu => by
  dsimp only at hu
  split at hu
  · rename_i e
    exact ⟨x, y, hx, hy, .inr ⟨rfl, Nat.lt_succ_self _⟩, by rw [e]; exact hv⟩
  · obtain ⟨i, j, hi, hj, hc, e⟩ := h u hu
    exact ⟨i, j, hi, hj, by omega, e⟩
theorem SeenC.line {n : Nat} {F : Nat → Nat → Int} {x : Nat} {f : Nat → Bool} (h : SeenC n F x n f) : SeenC n F (x + 1) 0 f := fun u hu => by
  obtain ⟨i, j, hi, hj, hc, e⟩ := h u hu
  exact ⟨i, j, hi, hj, by omega, e⟩
theorem bool_infoO : (Try.prog.info? 4).map (fun i => (i.zero, i.size, i.bytes)) = some (some (.bool false), 1, 1) := by kernel_rfl
set_option maxRecDepth 100000 in
set_option maxHeartbeats 4000000 in
theorem orthogonal_yes (A : Option Addr) (n c : Nat) (a : List (List Int)) (B : Option Addr) (d : Nat) (b : List (List Int)) (w : World) (ha : RR w A n a) (hb : RR w B n b) (hqa : Square a) (hqb : Square b) (hP : PairOk n a b) :
    Calls Try.prog 62 #[.slice A n c, .slice B n d] w (RetB w true) := by
  have hal := ha.len
  have hn10 : n ≤ 10 := by have := hqa.2.1; omega
  have hnn : n * n ≤ 10 * 10 := Nat.mul_le_mul hn10 hn10
  have hw1 : IntKind.i64.wrap ((n : Int) * (n : Int)) = ((n * n : Nat) : Int) := by
    rw [IntKind.wrap_i64]
    have : ((n * n : Nat) : Int) = (n : Int) * (n : Int) := by push_cast; rfl
    rw [← this]
    omega
  have HP := Lib.hid hP
  clear hP
  generalize hN : n * n = N at *
  have hmk := run_make_row' (P := Try.prog) 57 4 (.bool false) 1 Try.underlying57 bool_infoO rfl .i64 .i64 N (by omega) (by omega)
  have hos := OS.made w w.heap.size 4 (.bool false) N (Nat.le_refl _) (by omega)
  rw [bools_false] at hos
  have hb1 := below_alloc w (.cells (madeCells #[.bool false] N) 4)
  have hs1 : (w.alloc (.cells (madeCells #[.bool false] N) 4)).heap.size = w.heap.size + 1 := by simp
  have hsp := superpose_any A n c a B d b _ (ha.keep hb1) (hb.keep hb1) hqa hqb
  have HN := Lib.hid hN
  clear hN hqa hqb ha hb hal
  go_enter Try.func62, Try.ntmps62
  go_wp2_with (fail)
  generalize w.alloc (.cells (madeCells #[.bool false] N) 4) = w1 at *
  refine hsp.mono ?_
  rintro e w2 ⟨R, rc, rfl, ho, hb2⟩
  have hos := hos.below hb2
  have hbw := below_then hb1 hb2
  have h0 : SeenC n (pairF n a b) 0 0 (fun _ => false) := fun v h => by cases h
  clear hsp hb1 hb2 hmk hw1
  rw [hs1] at ho
  go_wp2
  go_loopw [7, 9, 25] (fun _ _ i wr => ∃ (x : Nat) (f : Nat → Bool), x ≤ n ∧ i = .int .i64 x ∧ OS wr w.heap.size 4 1 (some ⟨w.heap.size, 0, none⟩) N N (bools N f) ∧ SeenC n (pairF n a b) x 0 f ∧ OR wr (w.heap.size + 1) 30 2 R n rc (fillS (pairF n a b) n n) ∧ Below w.heap.size w wr) (fun _ _ i _ => n - (intOf i).toNat)
  case atStart => exact ⟨0, _, Nat.zero_le _, rfl, hos, h0, ho, hbw⟩
  case round =>
    clear hos h0 ho hbw
    obtain ⟨x, f, hx, rfl, hos, hse, ho, hbw⟩ := hrel
    by_cases hlt : x < n
    · obtain ⟨ad, RX, rn, rc2, rfl, hcx, hrn, hrc, hRX⟩ := ho.reads.get hlt
      obtain rfl : rn = n := by rw [← hRX.len, fillS_row _ hlt, fillR_len]
      have HRC := Lib.hid (And.intro hrn hrc)
      go_wp2
      clear hRX
      go_loopw [9, 31] (fun _ i wr => ∃ (y : Nat) (f : Nat → Bool), y ≤ rn ∧ i = .int .i64 y ∧ OS wr w.heap.size 4 1 (some ⟨w.heap.size, 0, none⟩) N N (bools N f) ∧ SeenC rn (pairF rn a b) x y f ∧ OR wr (w.heap.size + 1) 30 2 (some ad) rn rc (fillS (pairF rn a b) rn rn) ∧ Below w.heap.size w wr ∧ wr.cell? (ad.add x) = some (.slice RX rn rc2)) (fun _ i _ => rn - (intOf i).toNat)
      case atStart => exact ⟨0, f, Nat.zero_le _, rfl, hos, hse, ho, hbw, hcx⟩
      case round =>
        clear hos hse ho hbw hcx
        obtain ⟨y, f, hy, rfl, hos, hse, ho, hbw, hcx⟩ := hrel
        by_cases hyl : y < rn
        · obtain ⟨ad2, RX2, rn2, rc3, had, hcx2, -, -, hRX⟩ := ho.reads.get hlt
          injection had with had
          subst had
          rw [hcx] at hcx2
          injection hcx2 with hcx2
          injection hcx2 with e1 e2 e3
          subst e1 e2 e3
          obtain ⟨ax, rfl, hcz, -⟩ := hRX.get hyl
          rw [fillS_row _ hlt, fillR_nth _ hyl] at hcz
          obtain ⟨v, hv, hvN⟩ := HP.out.bd x y hlt hyl
          rw [HN.out] at hvN
          have hfv : f v = false := by
            cases hfv : f v with
            | false => rfl
            | true =>
              obtain ⟨i, j, hi, hj, hc, e⟩ := hse v hfv
              have := HP.out.inj i j x y hi hj hlt hyl (by rw [e, hv])
              omega
          obtain ⟨g', hg', hcv, hfz⟩ := hos.cell (bools_at (f := f) hvN)
          injection hg' with hg'
          injection hg' with hg'
          subst hg'
          rw [hfv] at hcv
          rw [hv] at hcz
          have hos2 := hos.set v (.bool true)
          rw [bools_set] at hos2
          have hse2 := Lib.hid (hse.put hlt hyl hv)
          have ho2 := Lib.hid (ho.setLow (p := ⟨w.heap.size, v, none⟩) (Nat.lt_succ_self _) (.bool true))
          have hbw2 := Lib.hid (hbw.setCell (p := ⟨w.heap.size, v, none⟩) (Nat.le_refl _) (.bool true))
          have hcx2 := Lib.hid (show (wr.setCell ⟨w.heap.size, v, none⟩ (.bool true)).cell? (ad.add x) = some (.slice (some ax) rn rc2) by
            rw [World.cell?_setCell_far]
            · exact hcx
            · obtain ⟨vs, hov⟩ := ho
              obtain ⟨g, v', hg, -, -, -, -⟩ := hov.get hlt
              have := (hov.os.lt (k := g) (by rw [hg]; rfl)).1
              injection hg with hg
              rw [add_block, hg]
              show w.heap.size ≠ g
              omega)
          have HOS := Lib.hid hos2
          clear hos hos2 hse ho hbw hRX hv hfv
          go_wp2
          go_roundw
          case rel => exact ⟨y + 1, _, by omega, by go_num, HOS.out, hse2.out, ho2.out, hbw2.out, hcx2.out⟩
          case measure => simp [intOf]; omega
        · obtain rfl : y = rn := by omega
          have hse2 := Lib.hid hse.line
          clear hse
          go_wp2
          go_roundw
          case rel => exact ⟨x + 1, f, by omega, by go_num, hos, hse2.out, ho, hbw⟩
          case measure => simp [intOf]; omega
    · go_wp2
      go_ret
      exact ⟨rfl, hbw⟩
end Go.Proofs.Ytcnjlkabdfcjdaa
