/- The search for completions: a node. No condition beyond those stated. -/
import Derived.Test.YtcnjlkabdfcjdaaZAT
import Derived.Test.YtcnjlkabdfcjdaaZAN
import Derived.Test.YtcnjlkabdfcjdaaZAK
import Derived.Deep.DeepCutAuto
import Derived.Test.YtcnjlkabdfcjdaaZAD
import Derived.Test.YtcnjlkabdfcjdaaZAC
set_option linter.unusedVariables false
set_option linter.unusedSimpArgs false
namespace Go.Proofs.Ytcnjlkabdfcjdaa
open Go.RowKit

/-- the search below a node -/
def SubC (w0 : World) (g D M n : Nat) (SA : Option Addr) (sc : Nat) (CA : Option Addr) (m mc lim : Nat) (vs : List Sl) (cs rem : List Nat) : Prop :=
  ∀ (w : World) (p : List (List Int)) (FA : Option Addr) (fn fk : Nat) (s : CSt) (k : Nat), k + rem.length = m → cs.drop k = rem → PSq n p → empP n p = rem → s.spent = false → s.count < lim → s.left ≤ 20000 →
    ICl w0 w g D M n SA sc CA m mc lim vs cs p FA fn fk s →
    Calls Try.prog 81 #[.pointer (some ⟨g, 0, none⟩), .int .i64 k] w (RetCl w0 w g D M n SA sc CA m mc lim vs cs p (clS n lim rem p s))
theorem natsI_at {l : List Nat} {k c : Nat} (h : l[k]? = some c) : nth (natsI l) k = (c : Int) := by
  refine nth_eq ?_
  simp [natsI, h]
theorem drop_cons_at {l : List Nat} {k c : Nat} {r : List Nat} (h : l.drop k = c :: r) : l[k]? = some c ∧ l.drop (k + 1) = r := by
  have h1 : l[k]? = some c := by
    have := congrArg (fun x => x[0]?) h
    simpa using this
  refine ⟨h1, ?_⟩
  have := congrArg List.tail h
  simpa using this
theorem drop_int {l : List Int} {i : Nat} (h : i < l.length) : l.drop i = nth l i :: l.drop (i + 1) := by
  rw [List.drop_eq_getElem_cons h, nth_get h]
theorem psq_cells {n : Nat} {p : List (List Int)} (h : PSq n p) (hn : n ≤ 10) : cells p ≤ 1099511627776 := by
  have h1 := cells_under (l := p) (k := n) (fun r hr => by rw [h.rows r hr]; exact Nat.le_refl _)
  rw [h.len] at h1
  have := Nat.mul_le_mul hn hn
  omega
set_option maxRecDepth 100000 in
set_option maxHeartbeats 4000000 in
theorem searchC_step (w0 : World) (g D M n : Nat) (SA : Option Addr) (sc : Nat) (CA : Option Addr) (m mc lim : Nat) (vs : List Sl) (cs : List Nat) (c : Nat) (rem : List Nat) (hn : n ≤ 10) (hlim : lim ≤ 1000) (hsub : SubC w0 g D M n SA sc CA m mc lim vs cs rem) :
    SubC w0 g D M n SA sc CA m mc lim vs cs (c :: rem) := by
  intro w p FA fn fk s k hk hdr hp he hsp hcn hsl h
  have hcl := psq_cells hp hn
  obtain ⟨hck, hdr2⟩ := drop_cons_at hdr
  have hc : c < n * n ∧ atS p (c / n) (c % n) = -1 := by
    have : c ∈ empP n p := by rw [he]; exact List.mem_cons_self
    obtain ⟨h1, h2⟩ := List.mem_filter.1 this
    exact ⟨List.mem_range.1 h1, by simpa using h2⟩
  obtain ⟨hxn, hyn⟩ := cell_bd hc.1
  have hrl := hp.row (c / n) hxn
  have HLE := Lib.hid (fun (r : List Int) (t : CSt) (h1 : t.count ≤ lim) (h2 : t.left ≤ 20000) => clL_le (lim := lim) (L := 20000) (p := p) (x := c / n) (y := c % n) (sub := clS n lim rem) (fun q s h1 h2 => clS_le rem q s h1 h2) r t h1 h2)
  have HSL := Lib.hid (fun (q : List (List Int)) (t : CSt) (h1 : t.count < lim) (h2 : t.left ≤ 20000) => clS_le (n := n) (lim := lim) (L := 20000) rem q t h1 h2)
  have HP2 := Lib.hid (fun (z : Int) (hz : z ∈ candP p (c / n) (c % n)) => (show PSq n (putS p (c / n) (c % n) z) ∧ empP n (putS p (c / n) (c % n) z) = rem from ⟨hp.put hxn hyn hz, emp_put hp he hz⟩))
  have HBK := Lib.hid (fun (z : Int) => putS_back (p := p) (z := z) (x := c / n) (y := c % n) (by rw [hp.len]; exact hxn) (by rw [hrl]; exact hyn) hc.2)
  have HZ := Lib.hid (fun (z : Int) (hz : z ∈ candP p (c / n) (c % n)) => (show 0 ≤ z ∧ z < (n : Int) by
    have := (candP_mem hp hxn).1 hz
    exact ⟨this.1, this.2.1⟩))
  have HROW := Lib.hid hrl
  have HRP := Lib.hid (fun (z : Int) => (show (row (putS p (c / n) (c % n) z) (c / n)).length = n by rw [row_putS (by rw [hp.len]; exact hxn), if_pos rfl, List.length_set]; exact hrl))
  have HLN := Lib.hid hp.len
  have HRW := Lib.hid (fun r (hr : r ∈ p) => (show c % n < r.length by rw [hp.rows r hr]; exact hyn))
  obtain ⟨R, hR⟩ : ∃ R, clS n lim (c :: rem) p s = R := ⟨_, rfl⟩
  rw [hR]
  have HR := Lib.hid (show clL (clS n lim rem) lim p (c / n) (c % n) ((candP p (c / n) (c % n)).drop 0) s = R by rw [List.drop_zero, ← hR, clS])
  have hcc : c < 100 := by have := Nat.mul_le_mul hn hn; omega
  have hn1 : 1 ≤ n := by omega
  have hq1 : wrap64 ((c : Int) / (n : Int)) = ((c / n : Nat) : Int) := by
    rw [show (c : Int) / (n : Int) = ((c / n : Nat) : Int) from rfl]
    have := hxn
    generalize c / n = d at this ⊢
    exact IntWalk.wrap64_in _ (by omega)
  have hq2 : Int.tmod (c : Int) (n : Int) = ((c % n : Nat) : Int) := rfl
  have HSUB := Lib.hid hsub
  have HCN := Lib.hid hcn
  have HSP := Lib.hid hsp
  clear hR hsub hdr hp he hrl hc
  have hkm : k < m := by simp at hk; omega
  have hmb := h.c.os.cap
  have H0 := h.cells
  obtain ⟨⟨x0, x1, x2, x3⟩, x4, x5, x6⟩ := H0
  obtain ⟨gc, rfl, hcc1, -, -⟩ := h.c.cell hkm
  rw [natsI_at hck] at hcc1
  have HH := Lib.hid h
  have hrr := Lib.hid (OR.reads ⟨_, h.q.orv⟩)
  have hkm2 : ((k : Int) == (m : Int)) = false := by simp; omega
  have hcand := candidates_any SA n sc (c / n) (c % n) p
  clear h
  generalize c / n = x at *
  generalize c % n = y at *
  go_enter Try.func81, Try.ntmps81
  go_wp2_with (go_at_call 48; refine (sizeR_any _ _ _ _ (by omega)).mono ?_; rintro e w' ⟨rfl, rfl⟩)
  go_quiet (fail)
  rename_i nq

  have hdb := below_drewn w nq

  have H1 := HH.out.below hdb
  have hcand := hcand (w.drewN nq) (hrr.out.keep hdb) (by omega) hxn HRW.out
  have K1 := Mid.of_below hdb (Nat.le_refl _) w0.heap.size M
  generalize w.drewN nq = W1 at *
  obtain ⟨⟨x0, x1, x2, x3⟩, x4, x5, x6⟩ := H1.cells
  clear HH hrr hcc1 hdb
  go_wp2_with (go_at_call 54; refine hcand.mono ?_; rintro e w6 ⟨LA, ln, lc, rfl, hol, hb6⟩)
  have H6 := H1.below hb6
  have K6 := K1.trans (Mid.of_below hb6 (Nat.le_refl _) w0.heap.size M)
  have S6 : ∃ FA fn fk, ICl w0 w6 g D M n SA sc (some ⟨gc, 0, none⟩) m mc lim vs cs p FA fn fk s := ⟨FA, fn, fk, H6⟩
  have hol6 := hol.more H1.M3
  have hll := hol.len
  have hln : ln ≤ n := by
    rw [← hll]
    have := candTo_le p x y p.length
    rw [candTo_all] at this
    rw [HLN.out] at this
    exact this
  clear hcand H1 K1 x0 x1 x2 x3 x4 x5 x6 hq1 hq2 hb6 hol H6
  go_loopw [8, 67] (fun _ i wr => ∃ (j : Nat) (t : CSt), j ≤ ln ∧ i = .int .i64 j ∧ (∃ FA fn fk, ICl w0 wr g D M n SA sc (some ⟨gc, 0, none⟩) m mc lim vs cs p FA fn fk t) ∧ Mid w wr w0.heap.size M ∧ OI wr M 2 LA ln lc (candP p x y) ∧ clL (clS n lim rem) lim p x y ((candP p x y).drop j) t = R ∧ t.count ≤ lim ∧ t.left ≤ 20000) (fun _ i _ => ln - (intOf i).toNat)
  case atStart => exact ⟨0, s, Nat.zero_le _, rfl, S6, K6, hol6, HR.out, by have := HCN.out; omega, hsl⟩
  case round =>
    clear S6 K6 hol6 HR hsl hcn hsp
    obtain ⟨j, t, hj, rfl, ⟨FA1, fn1, fk1, h⟩, hK, hol, hT, htc, htl⟩ := hrel
    by_cases hlt : j < ln
    · obtain ⟨gl, rfl, hcz, -, hiz⟩ := hol.cell hlt
      rw [drop_int (by omega), clL] at hT
      have hzm : nth (candP p x y) j ∈ candP p x y := by rw [nth_get (by omega)]; exact List.getElem_mem _
      obtain ⟨hp2, he2⟩ := HP2.out _ hzm
      have hbk := HBK.out (nth (candP p x y) j)
      have hrp := HRP.out (nth (candP p x y) j)
      have hzz := HZ.out _ hzm
      have HT := Lib.hid hT
      have HO := Lib.hid hol
      have HJ := Lib.hid (And.intro htc htl)
      clear hT hzm hol
      generalize nth (candP p x y) j = z at *
      obtain ⟨tl, tsp, tct, tfi⟩ := t
      simp only [] at HT htc htl HJ
      have H0 := h.cells
      simp only [] at H0
      obtain ⟨⟨x0, x1, x2, x3⟩, x4, x5, x6⟩ := H0
      by_cases hstop : tct = lim ∨ tsp = true
      · have hR := HT.out
        rw [if_pos hstop] at hR
        have HRE := Lib.hid hR
        have HS := Lib.hid h
        have HK := Lib.hid hK
        have hcase : ((tct : Int) == (lim : Int)) = true ∨ (((tct : Int) == (lim : Int)) = false ∧ tsp = true) := by
          by_cases e : tct = lim
          · exact .inl (by simp [e])
          · exact .inr ⟨by simp; omega, hstop.resolve_left e⟩
        clear hstop hR HT h hK
        rcases hcase with hc1 | ⟨hc1, rfl⟩
        · go_wp2
          go_quiet (fail)
          go_wp2
          go_end0
          exact ⟨rfl, HRE.out ▸ ⟨_, _, _, HS.out.below (below_drewn _ _)⟩, HK.out.trans (Mid.of_below (below_drewn _ _) (Nat.le_refl _) _ _)⟩
        · go_wp2
          go_quiet (fail)
          go_wp2
          go_end0
          exact ⟨rfl, HRE.out ▸ ⟨_, _, _, HS.out.below (below_drewn _ _)⟩, HK.out.trans (Mid.of_below (below_drewn _ _) (Nat.le_refl _) _ _)⟩
      · have hc1 : ((tct : Int) == (lim : Int)) = false := by simp; exact fun e => hstop (.inl (by omega))
        have htsp : tsp = false := by
          cases tsp with
          | false => rfl
          | true => exact absurd (.inr rfl) hstop
        subst htsp
        have hR := HT.out
        rw [if_neg hstop] at hR
        have hlt2 : tct < lim := by
          rcases Nat.lt_or_ge tct lim with e | e
          · exact e
          · exact absurd (.inl (by omega)) hstop
        have hdr : Below wr.heap.size wr wr.drew := by have := below_drewn wr 1; rwa [← World.drew_is_drewN] at this
        have h2 := h.below hdr
        have K2 := hK.trans (Mid.of_below hdr (Nat.le_refl _) w0.heap.size M)
        have ho2 := HO.out.below hdr
        have hcz2 := below_cell hdr hcz
        clear hstop HT h hK HO
        go_wp2
        clear hcz
        refine wp_region_held_drew (S := fun w' => w'.cell? ⟨g, 5, none⟩ = some (.int .i64 (tct : Int)) ∧ w'.cell? ⟨g, 4, none⟩ = some (.int .i64 (lim : Int))) (by kernel_rfl) (by simpa using ⟨x5, x4⟩) ?_
        intro hS
        generalize wr.drew = W2 at *
        refine wpAnyH_take (i := 0) (v := ?_) rfl (by kernel_rfl) (by kernel_rfl) (by kernel_rfl) (fun _ _ _ h => h) (Or.inl ⟨by rfl, ?_⟩) (by assumption) ?_
        rotate_left
        · (intro w hSw; (try dsimp only at hSw); go_simp; (try with_reducible rfl))
        simp only [Act.put, List.setIfInBounds_toArray, List.set_cons_zero, List.set_cons_succ]
        refine wpAnyH_take (i := 1) (v := ?_) rfl (by kernel_rfl) (by kernel_rfl) (by kernel_rfl) (fun _ _ _ h => h) (Or.inl ⟨by rfl, ?_⟩) (by assumption) ?_
        rotate_left
        · (intro w hSw; (try dsimp only at hSw); go_simp; (try with_reducible rfl))
        simp only [Act.put, List.setIfInBounds_toArray, List.set_cons_zero, List.set_cons_succ]
        refine wpAnyH_take (i := 2) (v := ?_) rfl (by kernel_rfl) (by kernel_rfl) (by kernel_rfl) (fun _ _ _ h => h) (Or.inl ⟨by rfl, ?_⟩) (by assumption) ?_
        rotate_left
        · (intro w hSw; (try dsimp only at hSw); go_simp; (try with_reducible rfl))
        simp only [Act.put, List.setIfInBounds_toArray, List.set_cons_zero, List.set_cons_succ]
        refine wpAnyH_take (i := 3) (v := ?_) rfl (by kernel_rfl) (by kernel_rfl) (by kernel_rfl) (fun _ _ _ h => h) (Or.inl ⟨by rfl, ?_⟩) (by assumption) ?_
        rotate_left
        · (intro w hSw; (try dsimp only at hSw); go_simp; (try with_reducible rfl))
        simp only [Act.put, List.setIfInBounds_toArray, List.set_cons_zero, List.set_cons_succ]
        refine wpAnyH_take (i := 4) (v := ?_) rfl (by kernel_rfl) (by kernel_rfl) (by kernel_rfl) (fun _ _ _ h => h) (Or.inl ⟨by rfl, ?_⟩) (by assumption) ?_
        rotate_left
        · (intro w hSw; (try dsimp only at hSw); go_simp; (try with_reducible rfl))
        simp only [Act.put, List.setIfInBounds_toArray, List.set_cons_zero, List.set_cons_succ]
        refine wpAnyH_take (i := 5) (v := ?_) rfl (by kernel_rfl) (by kernel_rfl) (by kernel_rfl) (fun _ _ _ h => h) (Or.inl ⟨by rfl, ?_⟩) (by assumption) ?_
        rotate_left
        · (intro w hSw; (try dsimp only at hSw); go_simp; (try with_reducible rfl))
        simp only [Act.put, List.setIfInBounds_toArray, List.set_cons_zero, List.set_cons_succ]
        refine wpAnyH_take (i := 6) (v := ?_) rfl (by kernel_rfl) (by kernel_rfl) (by kernel_rfl) (fun _ _ _ h => h) (Or.inl ⟨by rfl, ?_⟩) (by assumption) ?_
        rotate_left
        · (intro w hSw; (try dsimp only at hSw); go_simp; (try with_reducible rfl))
        simp only [Act.put, List.setIfInBounds_toArray, List.set_cons_zero, List.set_cons_succ]
        refine wpAnyH_take (i := 7) (v := ?_) rfl (by kernel_rfl) (by kernel_rfl) (by kernel_rfl) (fun _ _ _ h => h) (Or.inl ⟨by rfl, ?_⟩) (by assumption) ?_
        rotate_left
        · (intro w hSw; (try dsimp only at hSw); go_simp; (try with_reducible rfl))
        simp only [Act.put, List.setIfInBounds_toArray, List.set_cons_zero, List.set_cons_succ]
        refine wpAnyH_take (i := 8) (v := ?_) rfl (by kernel_rfl) (by kernel_rfl) (by kernel_rfl) (fun _ _ _ h => h) (Or.inl ⟨by rfl, ?_⟩) (by assumption) ?_
        rotate_left
        · (intro w hSw; (try dsimp only at hSw); go_simp; (try with_reducible rfl))
        simp only [Act.put, List.setIfInBounds_toArray, List.set_cons_zero, List.set_cons_succ]
        refine wpAnyH_take (i := 9) (v := ?_) rfl (by kernel_rfl) (by kernel_rfl) (by kernel_rfl) (fun _ _ _ h => h) (Or.inl ⟨by rfl, ?_⟩) (by assumption) ?_
        rotate_left
        · (intro w hSw; (try dsimp only at hSw); go_simp; (try with_reducible rfl))
        simp only [Act.put, List.setIfInBounds_toArray, List.set_cons_zero, List.set_cons_succ]
        simp only [List.getElem_toArray, List.getElem_cons_succ, List.getElem_cons_zero, Act.put, List.setIfInBounds_toArray, List.set_cons_zero, List.set_cons_succ]
        refine wpAnyH_take (i := 10) (v := ?_) rfl (by kernel_rfl) (by kernel_rfl) (by kernel_rfl) (fun _ _ _ h => h) (Or.inl ⟨by rfl, ?_⟩) (by assumption) ?_
        rotate_left
        · (intro w hSw; (try dsimp only at hSw); go_simp; (try with_reducible rfl))
        simp only [Act.put, List.setIfInBounds_toArray, List.set_cons_zero, List.set_cons_succ]
        refine wpAnyH_take (i := 11) (v := ?_) rfl (by kernel_rfl) (by kernel_rfl) (by kernel_rfl) (fun _ _ _ h => h) (Or.inl ⟨by rfl, ?_⟩) (by assumption) ?_
        rotate_left
        · (intro w hSw; (try dsimp only at hSw); go_simp; (try with_reducible rfl))
        simp only [Act.put, List.setIfInBounds_toArray, List.set_cons_zero, List.set_cons_succ]
        refine wpAnyH_take (i := 12) (v := ?_) rfl (by kernel_rfl) (by kernel_rfl) (by kernel_rfl) (fun _ _ _ h => h) (Or.inl ⟨by rfl, ?_⟩) (by assumption) ?_
        rotate_left
        · (intro w hSw; (try dsimp only at hSw); go_simp; (try with_reducible rfl))
        simp only [Act.put, List.setIfInBounds_toArray, List.set_cons_zero, List.set_cons_succ]
        refine wpAnyH_take (i := 13) (v := ?_) rfl (by kernel_rfl) (by kernel_rfl) (by kernel_rfl) (fun _ _ _ h => h) (Or.inl ⟨by rfl, ?_⟩) (by assumption) ?_
        rotate_left
        · (intro w hSw; (try dsimp only at hSw); go_simp; (try with_reducible rfl))
        simp only [Act.put, List.setIfInBounds_toArray, List.set_cons_zero, List.set_cons_succ]
        simp only [List.getElem_toArray, List.getElem_cons_succ, List.getElem_cons_zero, Act.put, List.setIfInBounds_toArray, List.set_cons_zero, List.set_cons_succ]
        have y1 : W2.cell? ⟨g, 1, none⟩ = some (.bool false) := h2.x.cell 1
        refine wpAnyH_ready (rs := [14]) (by kernel_rfl) (by simp) ?_
        refine AllReadyH.cons rfl (fun K hK => ?_) AllReadyH.nil
        go_simp
        refine hK.out _ _ hS (fun hS1 => ?_)
        clear hK K hS
        refine wpAnyH_take (i := 15) (v := ?_) rfl (by kernel_rfl) (by kernel_rfl) (by kernel_rfl) (fun _ _ _ h => h) (Or.inl ⟨by rfl, ?_⟩) (by assumption) ?_
        rotate_left
        · (intro w hSw; (try dsimp only at hSw); go_simp; (try with_reducible rfl))
        simp only [Act.put, List.setIfInBounds_toArray, List.set_cons_zero, List.set_cons_succ]
        refine wpAnyH_take (i := 16) (v := ?_) rfl (by kernel_rfl) (by kernel_rfl) (by kernel_rfl) (fun _ _ _ h => h) (Or.inl ⟨by rfl, ?_⟩) (by assumption) ?_
        rotate_left
        · (intro w hSw; (try dsimp only at hSw); go_simp; (try with_reducible rfl))
        simp only [Act.put, List.setIfInBounds_toArray, List.set_cons_zero, List.set_cons_succ]
        simp only [List.getElem_toArray, List.getElem_cons_succ, List.getElem_cons_zero, Act.put, List.setIfInBounds_toArray, List.set_cons_zero, List.set_cons_succ]
        refine wpAnyH_take (i := 17) (v := ?_) rfl (by kernel_rfl) (by kernel_rfl) (by kernel_rfl) (fun _ _ _ h => h) (Or.inl ⟨by rfl, ?_⟩) (by assumption) ?_
        rotate_left
        · (intro w hSw; (try dsimp only at hSw); go_simp; (try with_reducible rfl))
        simp only [Act.put, List.setIfInBounds_toArray, List.set_cons_zero, List.set_cons_succ]
        refine wpAnyH_take (i := 18) (v := ?_) rfl (by kernel_rfl) (by kernel_rfl) (by kernel_rfl) (fun _ _ _ h => h) (Or.inl ⟨by rfl, ?_⟩) (by assumption) ?_
        rotate_left
        · (intro w hSw; (try dsimp only at hSw); go_simp; (try with_reducible rfl))
        simp only [Act.put, List.setIfInBounds_toArray, List.set_cons_zero, List.set_cons_succ]
        refine wpAnyH_take (i := 19) (v := ?_) rfl (by kernel_rfl) (by kernel_rfl) (by kernel_rfl) (fun _ _ _ h => h) (Or.inl ⟨by rfl, ?_⟩) (by assumption) ?_
        rotate_left
        · (intro w hSw; (try dsimp only at hSw); go_simp; (try with_reducible rfl))
        simp only [Act.put, List.setIfInBounds_toArray, List.set_cons_zero, List.set_cons_succ]
        simp only [List.getElem_toArray, List.getElem_cons_succ, List.getElem_cons_zero, Act.put, List.setIfInBounds_toArray, List.set_cons_zero, List.set_cons_succ]
        have y0 : W2.cell? ⟨g, 0, none⟩ = some (.int .i64 (tl : Int)) := h2.x.cell 0
        have hnode := nodeC_any W2 g tl false y0 y1 (h2.x.frozen 0) (h2.x.frozen 1) (by omega)
        by_cases h0 : tl = 0
        · subst h0
          rw [if_pos rfl, show decide ((0 : Nat) ≠ 0) = false by simp] at hnode
          rw [if_pos rfl] at hR
          have H3 := Lib.hid (h2.spent_ true)
          have K3 := Lib.hid (K2.trans (h2.midg 1 (.bool true)))
          have s5 := H3.out.x.cell 5
          have s4 := H3.out.x.cell 4
          have HRE := Lib.hid hR
          clear hR h2 K2 ho2
          refine wpAnyH_ready (rs := [20]) (by kernel_rfl) (by simp) ?_
          refine AllReadyH.cons rfl (fun K hK => ?_) AllReadyH.nil
          go_simp
          refine hnode.mono ?_
          rintro e w3 ⟨rfl, rfl⟩
          dsimp only
          refine hK.out _ _ ⟨s5, s4⟩ (fun hS2 => ?_)
          clear hK K hS1
          refine wpAnyH_take (i := 21) (v := ?_) rfl (by kernel_rfl) (by kernel_rfl) (by kernel_rfl) (fun _ _ _ h => h) (Or.inl ⟨by rfl, ?_⟩) (by assumption) ?_
          rotate_left
          · (intro w hSw; (try dsimp only at hSw); go_simp; (try with_reducible rfl))
          simp only [Act.put, List.setIfInBounds_toArray, List.set_cons_zero, List.set_cons_succ]
          refine wpAnyH_take (i := 22) (v := ?_) rfl (by kernel_rfl) (by kernel_rfl) (by kernel_rfl) (fun _ _ _ h => h) (Or.inl ⟨by rfl, ?_⟩) (by assumption) ?_
          rotate_left
          · (intro w hSw; (try dsimp only at hSw); go_simp; (try with_reducible rfl))
          simp only [Act.put, List.setIfInBounds_toArray, List.set_cons_zero, List.set_cons_succ]
          simp only [List.getElem_toArray, List.getElem_cons_succ, List.getElem_cons_zero, Act.put, List.setIfInBounds_toArray, List.set_cons_zero, List.set_cons_succ]
          refine wpAnyH_done (by kernel_rfl) ?_ _
          go_wp2
          go_end0
          exact ⟨rfl, HRE.out ▸ ⟨_, _, _, H3.out⟩, K3.out⟩
        · rw [if_neg h0, show decide (tl ≠ 0) = true by simp [h0], show (tl : Int) - 1 = ((tl - 1 : Nat) : Int) by omega] at hnode
          rw [if_neg h0] at hR
          have H3 := Lib.hid (h2.left_ (tl - 1))
          have K3 := Lib.hid (K2.trans (h2.midg 0 (.int .i64 ((tl - 1 : Nat) : Int))))
          have s5 := H3.out.x.cell 5
          have s4 := H3.out.x.cell 4
          have s2 : (W2.setCell ⟨g, 0, none⟩ (.int .i64 ((tl - 1 : Nat) : Int))).cell? ⟨g, 2, none⟩ = some (.slice SA n sc) := H3.out.x.cell 2
          have ho3 := Lib.hid (ho2.mid (h2.midg 0 (.int .i64 ((tl - 1 : Nat) : Int))) (fun b hb => .inr (ho2.os.lt hb).1))
          have HRE := Lib.hid hR
          clear hR h2 K2 ho2
          refine wpAnyH_ready (rs := [20]) (by kernel_rfl) (by simp) ?_
          refine AllReadyH.cons rfl (fun K hK => ?_) AllReadyH.nil
          go_simp
          refine hnode.mono ?_
          rintro e w3 ⟨rfl, rfl⟩
          generalize W2.setCell ⟨g, 0, none⟩ (.int .i64 ((tl - 1 : Nat) : Int)) = W3 at *
          dsimp only
          refine hK.out _ _ ⟨s5, s4⟩ (fun hS2 => ?_)
          clear hK K hS1 hnode
          refine wpAnyH_take (i := 21) (v := ?_) rfl (by kernel_rfl) (by kernel_rfl) (by kernel_rfl) (fun _ _ _ h => h) (Or.inl ⟨by rfl, ?_⟩) (by assumption) ?_
          rotate_left
          · (intro w hSw; (try dsimp only at hSw); go_simp; (try with_reducible rfl))
          simp only [Act.put, List.setIfInBounds_toArray, List.set_cons_zero, List.set_cons_succ]
          refine wpAnyH_take (i := 22) (v := ?_) rfl (by kernel_rfl) (by kernel_rfl) (by kernel_rfl) (fun _ _ _ h => h) (Or.inl ⟨by rfl, ?_⟩) (by assumption) ?_
          rotate_left
          · (intro w hSw; (try dsimp only at hSw); go_simp; (try with_reducible rfl))
          simp only [Act.put, List.setIfInBounds_toArray, List.set_cons_zero, List.set_cons_succ]
          simp only [List.getElem_toArray, List.getElem_cons_succ, List.getElem_cons_zero, Act.put, List.setIfInBounds_toArray, List.set_cons_zero, List.set_cons_succ]
          refine wpAnyH_done (by kernel_rfl) ?_ _
          obtain ⟨gs, r, rm, rk, hat, hset⟩ := H3.out.cell hxn (y := y) (by have := HROW.out; omega)
          obtain ⟨rfl, co, fo, hm, mle, k1, ci, fi, br, rl, iz, -⟩ := hat
          obtain ⟨H4, K4⟩ := hset z (by unfold I64; omega)
          have H4 := Lib.hid H4
          have K4 := Lib.hid (K3.out.trans K4)
          have ho4 := Lib.hid (ho3.out.mid (hset z (by unfold I64; omega)).2 (fun b hb => .inr (ho3.out.os.lt hb).1))
          clear hset H3 K3 ho3
          have hsr := HSUB.out (W3.setCell ⟨r, y, none⟩ (.int .i64 z)) (putS p x y z) FA1 fn1 fk1 ⟨tl - 1, false, tct, tfi⟩ (k + 1) (by simp only [List.length_cons] at hk; omega) hdr2 hp2 he2 rfl hlt2 (by dsimp only; omega) H4.out
          rw [show ((k + 1 : Nat) : Int) = (k : Int) + 1 by omega] at hsr
          have HT7 := Lib.hid (HSL.out (putS p x y z) ⟨tl - 1, false, tct, tfi⟩ hlt2 (by dsimp only; omega))
          have hk64 : (k : Int) + 1 ≤ 9223372036854775807 := by omega
          have HBK7 := Lib.hid hbk
          have HRP7 := Lib.hid hrp
          have hyrm : y < rm := by have := HROW.out; omega
          clear H4 hS2 s4 s5 y0 y1 x0 x1 x3 x4 x5 x6 hcz2 hdr hbk hrp hm hp2 he2 hdr2 hck hc1 hll
          go_wp2_with (fail)
          refine hsr.mono ?_
          rintro e w7 ⟨rfl, ⟨FA7, fn7, fk7, h7⟩, K7⟩
          generalize clS n lim rem (putS p x y z) ⟨tl - 1, false, tct, tfi⟩ = T7 at *
          have x2 := h7.x.cell 2
          obtain ⟨gs7, r7, rm7, rk7, hat7, hset7⟩ := h7.cell hxn (y := y) (by rw [HRP7.out]; exact hyn)
          obtain ⟨hgs, co7, fo7, hm7, mle7, k17, ci7, fi7, br7, rl7, iz7, -⟩ := hat7
          injection hgs with hgs
          injection hgs with hgs
          subst hgs
          obtain ⟨H8, K8⟩ := hset7 (-1) (by unfold I64; omega)
          rw [HBK7.out] at H8
          have H8 := Lib.hid H8
          have ho8 := Lib.hid ((ho4.out.mid K7 (fun b hb => .inr (ho4.out.os.lt hb).1)).mid K8 (fun b hb => .inr (ho4.out.os.lt hb).1))
          have K8 := Lib.hid ((K4.out.trans K7).trans K8)
          have hy7 : y < rm7 := by have := HRP7.out; omega
          clear hset7 h7 K7 ho4 K4 hsr co fo ci fi
          go_wp2
          go_roundw
          case rel => exact ⟨j + 1, T7, by omega, by go_num, ⟨_, _, _, H8.out⟩, K8.out, ho8.out, HRE.out, HT7.out⟩
          case measure => simp [intOf]; omega
    · obtain rfl : j = ln := by omega
      rw [List.drop_eq_nil_of_le (by omega), clL] at hT
      go_wp2
      go_end0
      exact ⟨rfl, hT ▸ ⟨FA1, fn1, fk1, h⟩, hK⟩
end Go.Proofs.Ytcnjlkabdfcjdaa
/- Whether a budget is one, both sides. No condition beyond those stated. -/
namespace Go.Proofs.Ytcnjlkabdfcjdaa
open Go.RowKit

theorem isBudget_any (b : Int) (w : World) : Calls Try.prog 35 #[.int .i64 b] w (fun e w' => e = .returned (.bool (inB b 1 20000)) ∧ w = w') := by
  go_enter Try.func35, Try.ntmps35
  go_wp2_with (go_at_call 36; refine (within_any _ _ _ _).mono ?_; rintro e w' ⟨rfl, rfl⟩)
  go_ret
  exact ⟨rfl, rfl⟩
theorem l09Budget_any (b : Int) (w : World) : Calls Try.prog 39 #[.int .i64 b] w (fun e w' => e = .returned (.bool (inB b 1 20000)) ∧ w = w') := by
  go_enter Try.func39, Try.ntmps39
  go_wp2_with (go_at_call 40; refine (l00In_any _ _ _ _).mono ?_; rintro e w' ⟨rfl, rfl⟩)
  go_ret
  exact ⟨rfl, rfl⟩
end Go.Proofs.Ytcnjlkabdfcjdaa
/- Completions: CompletePartial and CountCompletions, the program's side. No condition beyond those stated. -/
namespace Go.Proofs.Ytcnjlkabdfcjdaa
open Go.RowKit

theorem searchC_any (w0 : World) (g D M n : Nat) (SA : Option Addr) (sc : Nat) (CA : Option Addr) (m mc lim : Nat) (vs : List Sl) (cs : List Nat) (hn : n ≤ 10) (hlim : lim ≤ 1000) : ∀ rem, SubC w0 g D M n SA sc CA m mc lim vs cs rem
  | [] => fun w p FA fn fk s k hk _ hp _ hsp hcn hsl h => by
    obtain rfl : k = m := by simpa using hk
    rw [clS]
    exact searchC_leaf w0 w g D M n SA sc CA k mc lim vs cs p FA fn fk s h hn (psq_cells hp hn) (by omega)
  | c :: rem => searchC_step w0 g D M n SA sc CA m mc lim vs cs c rem hn hlim (searchC_any w0 g D M n SA sc CA m mc lim vs cs hn hlim rem)
/-- what completions hands back -/
def RetCs (w : World) (s : CSt) (lim : Nat) (e : Ending) (w' : World) : Prop :=
  ∃ (g : Nat) (x2 x3 : Value) (FA : Option Addr) (fn fk : Nat), e = .returned (.pointer (some ⟨g, 0, none⟩)) ∧ Blk w' g 68 #[.int .i64 (s.left : Nat), .bool s.spent, x2, x3, .int .i64 lim, .int .i64 (s.count : Nat), .slice FA fn fk] ∧
    OR w' w.heap.size 30 2 FA fn fk s.first ∧ Below w.heap.size w w'
set_option maxRecDepth 100000 in
set_option maxHeartbeats 2000000 in
theorem completions_any (A : Option Addr) (n c : Nat) (p : List (List Int)) (lim b : Nat) (w : World) (ha : RR w A n p) (hp : PartOk p) (h1 : 1 ≤ lim) (h2 : lim ≤ 1000) (hb : b ≤ 20000) :
    Calls Try.prog 47 #[.slice A n c, .int .i64 lim, .int .i64 b] w (RetCs w (clR p lim b) lim) := by
  have hl := ha.len
  obtain ⟨p1, p2, p3⟩ := hp
  rw [hl] at p1 p2 p3
  have hcl := psq_cells p3 p2
  have hR : clR p lim b = clS n lim (empP n p) p ⟨b, false, 0, []⟩ := by rw [clR, hl]
  rw [hR]
  have HP := Lib.hid p3
  have HA := Lib.hid ha
  clear hR hl p3 ha
  go_enter Try.func47, Try.ntmps47
  go_wp2_with (fail)
  refine (copyLists_any A n c p w HA.out (by omega) hcl).mono ?_
  rintro e w1 ⟨SA, sn, sc, rfl, ho, hb1⟩
  obtain rfl : sn = n := by rw [← ho.len]; exact HP.out.len
  obtain ⟨vs, hov⟩ := ho.bound
  go_wp2_with (fail)
  refine (emptyCells_any A sn c p w1 (HA.out.keep hb1) (by omega) HP.out.row).mono ?_
  rintro e w2 ⟨CA, m, mc, rfl, hoc, hb2⟩
  have hov := hov.mid (Mid.of_below hb2 (Nat.le_refl _) 0 0) (.inl (Nat.zero_le _))
  have hb3 := below_alloc w2 (.cells #[.int .i64 b, .bool false, .slice SA sn sc, .slice CA m mc, .int .i64 lim, .int .i64 0, .slice none 0 0] 68)
  have X := Blk.new w2 68 #[.int .i64 b, .bool false, .slice SA sn sc, .slice CA m mc, .int .i64 lim, .int .i64 0, .slice none 0 0]
  have hsz : (w2.alloc (.cells #[.int .i64 b, .bool false, .slice SA sn sc, .slice CA m mc, .int .i64 lim, .int .i64 0, .slice none 0 0] 68)).heap.size = w2.heap.size + 1 := by simp
  have hcg : ∀ b, blk CA = some b → b < w2.heap.size := fun b hb => (hoc.os.lt hb).2
  have hml : m = (empP sn p).length := by rw [← hoc.len, natsI_len]
  have h : ICl w (w2.alloc (.cells #[.int .i64 b, .bool false, .slice SA sn sc, .slice CA m mc, .int .i64 lim, .int .i64 0, .slice none 0 0] 68)) w2.heap.size w1.heap.size (w2.heap.size + 1) sn SA sc CA m mc lim vs (empP sn p) p none 0 0 ⟨b, false, 0, []⟩ :=
    ⟨X, (hb1.trans (hb2.mono hb1.size)).trans (hb3.mono (Nat.le_trans hb1.size hb2.size)), hov.mid (Mid.of_below hb3 (Nat.le_refl _) 0 0) (.inl (Nat.zero_le _)), hoc.below hb3, OR.nil_ _ _ (by decide), hcg, ⟨hb2.size, hb1.size, Nat.lt_succ_self _⟩, by rw [hsz]; exact Nat.le_refl _⟩
  have hs := searchC_any w w2.heap.size w1.heap.size (w2.heap.size + 1) sn SA sc CA m mc lim vs (empP sn p) p2 h2 (empP sn p) _ p none 0 0 ⟨b, false, 0, []⟩ 0 (by omega) (by simp) HP.out rfl rfl (by dsimp only; omega) hb h
  have hw1 := Nat.le_trans hb1.size hb2.size
  clear X hov hoc hb3 hcg hml h hcl ho hb1 hb2 hsz
  go_wp2_with (fail)
  refine hs.mono ?_
  rintro e w3 ⟨rfl, ⟨FA, fn, fk, h3⟩, -⟩
  generalize clS sn lim (empP sn p) p ⟨b, false, 0, []⟩ = R at *
  have H3 := Lib.hid h3
  clear hs h3
  go_wp2
  go_ret
  exact ⟨w2.heap.size, _, _, FA, fn, fk, rfl, H3.out.x, H3.out.f.more (by omega), H3.out.b⟩
/-- what CompletePartial answers: its code, its rows -/
noncomputable def clK (p : List (List Int)) (b : Int) : Int := if tB (PartOk p) then (if inB b 1 20000 then (if (clR p 1 b.toNat).spent then 5 else if (clR p 1 b.toNat).count = 0 then 3 else 0) else 2) else 1
noncomputable def clF (p : List (List Int)) (b : Int) : List (List Int) := if clK p b = 0 then (clR p 1 b.toNat).first else []
def RetCP (w : World) (p : List (List Int)) (b : Int) (e : Ending) (w' : World) : Prop :=
  ∃ A n c, e = .returned (.tuple #[.slice A n c, .int .i64 (clK p b)]) ∧ OR w' w.heap.size 30 2 A n c (clF p b) ∧ Below w.heap.size w w'
theorem RetCP.no {w w' : World} {p : List (List Int)} {b c : Int} (hb : Below w.heap.size w w') (hk : clK p b = c) (hc : c ≠ 0) : RetCP w p b (.returned (.tuple #[.slice none 0 0, .int .i64 c])) w' :=
  ⟨none, 0, 0, by rw [hk], by rw [clF, hk, if_neg hc]; exact OR.nil_ _ _ (by decide), hb⟩
set_option maxRecDepth 100000 in
set_option maxHeartbeats 4000000 in
theorem completePartial_any (A : Option Addr) (n c : Nat) (p : List (List Int)) (b : Int) (w : World) (ha : RR w A n p) (hn : n ≤ c) (hc : c ≤ 9223372036854775807) :
    Calls Try.prog 16 #[.slice A n c, .int .i64 b] w (RetCP w p b) := by
  have hval := validPartial_any A n c p w ha hn hc
  cases hv : tB (PartOk p) with
  | false =>
    rw [hv] at hval
    have HK := Lib.hid (show clK p b = 1 by rw [clK, hv]; rfl)
    go_enter Try.func16, Try.ntmps16
    go_wp2_with (go_at_call 46; refine hval.mono ?_; rintro e w2 ⟨rfl, hb2⟩)
    go_ret2
    exact RetCP.no hb2 HK.out (by decide)
  | true =>
    rw [hv] at hval
    cases hi : inB b 1 20000 with
    | false =>
      have HK := Lib.hid (show clK p b = 2 by rw [clK, hv, hi]; rfl)
      go_enter Try.func16, Try.ntmps16
      go_wp2_with (first | (go_at_call 46; refine hval.mono ?_; rintro e w2 ⟨rfl, hb2⟩) | (go_at_call 35; refine (isBudget_any _ _).mono ?_; rintro e w3 ⟨rfl, rfl⟩; rw [hi]))
      go_ret2
      exact RetCP.no hb2 HK.out (by decide)
    | true =>
      have hp := tB_true.1 hv
      have hbb := inB_true hi
      obtain ⟨b', rfl⟩ : ∃ l' : Nat, b = (l' : Int) := ⟨b.toNat, by omega⟩
      have hcs := fun w2 (h : RR w2 A n p) => completions_any A n c p 1 b' w2 h hp (by omega) (by omega) (by omega)
      have HK := Lib.hid (show clK p (b' : Int) = if (clR p 1 b').spent then 5 else if (clR p 1 b').count = 0 then 3 else 0 by rw [clK, hv, hi]; rfl)
      have HF := Lib.hid (show clK p (b' : Int) = 0 → clF p (b' : Int) = (clR p 1 b').first from fun h => by rw [clF, if_pos h]; rfl)
      have HPL := Lib.hid hp
      clear hbb hp hv
      generalize clR p 1 b' = R at *
      obtain ⟨rl, rs, rc, rf⟩ := R
      simp only [] at HK HF
      go_enter Try.func16, Try.ntmps16
      go_wp2_with (first | (go_at_call 46; refine hval.mono ?_; rintro e w2 ⟨rfl, hb2⟩) | (go_at_call 35; refine (isBudget_any _ _).mono ?_; rintro e w3 ⟨rfl, rfl⟩; rw [hi]))
      refine (hcs w2 (ha.keep hb2)).mono ?_
      rintro e w3 ⟨g, y2, y3, FA, fn, fk, rfl, X, ho, hb3⟩
      have hb4 := hb2.trans (hb3.mono hb2.size)
      have ho := ho.more hb2.size
      have x1 : w3.cell? ⟨g, 1, none⟩ = some (.bool rs) := X.cell 1
      have x5 : w3.cell? ⟨g, 5, none⟩ = some (.int .i64 (rc : Int)) := X.cell 5
      have x6 : w3.cell? ⟨g, 6, none⟩ = some (.slice FA fn fk) := X.cell 6
      clear X hcs hval hb2 hb3
      cases rs with
      | true =>
        have HK2 := Lib.hid (show clK p (b' : Int) = 5 from HK.out)
        go_wp2
        go_ret2
        exact RetCP.no hb4 HK2.out (by decide)
      | false =>
        by_cases h0 : rc = 0
        · have HK2 := Lib.hid (show clK p (b' : Int) = 3 by rw [HK.out, h0]; rfl)
          have h0b : ((rc : Int) == 0) = true := by simp [h0]
          clear h0
          go_wp2
          go_ret2
          exact RetCP.no hb4 HK2.out (by decide)
        · have HK2 := Lib.hid (show clK p (b' : Int) = 0 by rw [HK.out, if_neg (by decide), if_neg h0])
          have h0b : ((rc : Int) == 0) = false := by simp; omega
          clear h0
          go_wp2
          go_ret2
          exact ⟨FA, fn, fk, by rw [HK2.out]; rfl, by rw [HF.out HK2.out]; exact ho, hb4⟩
end Go.Proofs.Ytcnjlkabdfcjdaa
