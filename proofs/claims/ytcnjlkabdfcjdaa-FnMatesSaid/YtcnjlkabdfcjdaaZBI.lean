/- The search for a mate. No condition beyond those stated. -/
import Derived.Test.YtcnjlkabdfcjdaaZBH
import Derived.Test.YtcnjlkabdfcjdaaZAD
set_option linter.unusedVariables false
set_option linter.unusedSimpArgs false
namespace Go.Proofs.Ytcnjlkabdfcjdaa
open Go.RowKit

/-- the tables tell which columns and symbols a transversal has -/
structure MtC (n : Nat) (a P : List (List Int)) (fc fy : Nat → Nat → Bool) : Prop where
  col : ∀ t d, t < n → d < n → (fc t d = true ↔ ∃ i, i < n ∧ atS P i d = (t : Int))
  sym : ∀ t s, t < n → s < n → (fy t s = true ↔ ∃ i j, i < n ∧ j < n ∧ atS P i j = (t : Int) ∧ atS a i j = (s : Int))
theorem MtC.put {n : Nat} {a P : List (List Int)} {fc fy : Nat → Nat → Bool} (h : MtC n a P fc fy) (hl : P.length = n) (hr : ∀ i, i < n → (row P i).length = n) {k x y s : Nat} (hx : x < n) (hy : y < n) (hf : atS P x y = -1) (hs : atS a x y = (s : Int)) :
    MtC n a (putS P x y (k : Int)) (upd fc k y true) (upd fy k s true) := by
  have at_ := fun {i j} (hi : i < n) (hj : j < n) => atM_put hl hr hx hy (k : Int) hi hj
  refine ⟨fun t d ht hd => ?_, fun t u ht hu => ?_⟩
  · have h1 := h.col t d ht hd
    unfold upd
    constructor
    · intro e
      split at e
      · rename_i e2
        exact ⟨x, hx, by rw [at_ hx hd, if_pos ⟨rfl, e2.2⟩, e2.1]⟩
      · obtain ⟨i, hi, e3⟩ := h1.1 e
        refine ⟨i, hi, ?_⟩
        rw [at_ hi hd]
        by_cases e4 : i = x ∧ d = y
        · rw [e4.1, e4.2, hf] at e3; omega
        · rw [if_neg e4]; exact e3
    · rintro ⟨i, hi, e⟩
      rw [at_ hi hd] at e
      split at e
      · rename_i e2
        rw [if_pos ⟨by omega, e2.2⟩]
      · split
        · rfl
        · exact h1.2 ⟨i, hi, e⟩
  · have h1 := h.sym t u ht hu
    unfold upd
    constructor
    · intro e
      split at e
      · rename_i e2
        exact ⟨x, y, hx, hy, by rw [at_ hx hy, if_pos ⟨rfl, rfl⟩, e2.1], by rw [hs, e2.2]⟩
      · obtain ⟨i, j, hi, hj, e3, e5⟩ := h1.1 e
        refine ⟨i, j, hi, hj, ?_, e5⟩
        rw [at_ hi hj]
        by_cases e4 : i = x ∧ j = y
        · rw [e4.1, e4.2, hf] at e3; omega
        · rw [if_neg e4]; exact e3
    · rintro ⟨i, j, hi, hj, e, e5⟩
      rw [at_ hi hj] at e
      split at e
      · rename_i e2
        rw [e2.1, e2.2, hs] at e5
        rw [if_pos ⟨by omega, by omega⟩]
      · split
        · rfl
        · exact h1.2 ⟨i, j, hi, hj, e, e5⟩
/-- what is not yet given -/
def MtN (n : Nat) (P : List (List Int)) (k x : Nat) : Prop := ∀ t i j, t < n → i < n → j < n → ((k < t ∧ 1 ≤ i) ∨ (t = k ∧ x ≤ i)) → atS P i j ≠ (t : Int)
theorem MtN.put {n : Nat} {P : List (List Int)} {k x y : Nat} (h : MtN n P k x) (hl : P.length = n) (hr : ∀ i, i < n → (row P i).length = n) (hx : x < n) (hy : y < n) : MtN n (putS P x y (k : Int)) k (x + 1) := fun t i j ht hi hj hc => by
  rw [atM_put hl hr hx hy (k : Int) hi hj]
  split
  · rename_i e
    rcases hc with hc | hc
    · omega
    · omega
  · exact h t i j ht hi hj (by omega)
theorem MtN.turn {n : Nat} {P : List (List Int)} {k : Nat} (h : MtN n P k n) : MtN n P (k + 1) 1 := fun t i j ht hi hj hc => h t i j ht hi hj (.inl (by omega))
theorem upd_back {f : Nat → Nat → Bool} {k y : Nat} (h : f k y = false) : upd (upd f k y true) k y false = f := by
  funext t d
  unfold upd
  by_cases e : t = k ∧ d = y
  · rw [if_pos e, e.1, e.2, h]
  · rw [if_neg e, if_neg e]
theorem putM_back {n : Nat} {p : List (List Int)} {x y : Nat} {z : Int} (hl : p.length = n) (hr : ∀ i, i < n → (row p i).length = n) (hx : x < n) (hy : y < n) (h : atS p x y = -1) : putS (putS p x y z) x y (-1) = p := by
  rw [putS_twice (by rw [hl]; exact hx)]
  unfold putS
  have e2 : (row p x).set y (-1) = row p x := by
    rw [← h]
    unfold atS
    rw [nth_get (by rw [hr x hx]; exact hy), List.set_getElem_self]
  rw [e2, row_get (by rw [hl]; exact hx), List.set_getElem_self]
/-- the search's outcome -/
def RetM (w0 : World) (g n : Nat) (SA : Option Addr) (sc : Nat) (a : List (List Int)) (MA : Option Addr) (mc : Nat) (vm : List Sl) (P : List (List Int)) (CA : Option Addr) (cc : Nat) (vc : List Sl) (fc : Nat → Nat → Bool) (YA : Option Addr) (yc : Nat) (vy : List Sl) (fy : Nat → Nat → Bool) (left : Nat) (e : Ending) (w' : World) : Prop :=
  (e = .returned (.bool true) ∧ ∃ P' fc' fy' left' spent', IMt w0 w' g n SA sc a MA mc vm P' CA cc vc fc' YA yc vy fy' left' spent' ∧ MtD n a P') ∨
  (e = .returned (.bool false) ∧ ∃ left' spent', IMt w0 w' g n SA sc a MA mc vm P CA cc vc fc YA yc vy fy left' spent' ∧ left' ≤ left)
/-- the search from some place on -/
def SubM (w0 : World) (g n : Nat) (SA : Option Addr) (sc : Nat) (a : List (List Int)) (MA : Option Addr) (mc : Nat) (vm : List Sl) (CA : Option Addr) (cc : Nat) (vc : List Sl) (YA : Option Addr) (yc : Nat) (vy : List Sl) (f : Nat) : Prop :=
  ∀ (w : World) (P : List (List Int)) (fc fy : Nat → Nat → Bool) (left : Nat) (spent : Bool) (k x : Nat), k < n → 1 ≤ x → x ≤ n → (n - k) * n + (n - x) ≤ f → left ≤ 20000 → MtI n a P k x → MtN n P k x → MtC n a P fc fy →
    IMt w0 w g n SA sc a MA mc vm P CA cc vc fc YA yc vy fy left spent →
    Calls Try.prog 61 #[.pointer (some ⟨g, 0, none⟩), .int .i64 k, .int .i64 x] w (RetM w0 g n SA sc a MA mc vm P CA cc vc fc YA yc vy fy left)
set_option maxRecDepth 100000 in
set_option maxHeartbeats 8000000 in
/-- a node: the places of row x -/
theorem searchM_loop (w0 w : World) (g n : Nat) (SA : Option Addr) (sc : Nat) (a : List (List Int)) (MA : Option Addr) (mc : Nat) (vm : List Sl) (CA : Option Addr) (cc : Nat) (vc : List Sl) (YA : Option Addr) (yc : Nat) (vy : List Sl) (f : Nat) (hsub : SubM w0 g n SA sc a MA mc vm CA cc vc YA yc vy f)
    (P : List (List Int)) (fc fy : Nat → Nat → Bool) (left : Nat) (spent : Bool) (k9 x9 k x : Nat) (hkx : (x9 < n ∧ k = k9 ∧ x = x9) ∨ (x9 = n ∧ k = k9 + 1 ∧ x = 1)) (hk : k < n) (hx1 : 1 ≤ x) (hx : x < n) (hf : (n - k) * n + (n - x) ≤ f + 1) (hleft : left ≤ 20000) (hI : MtI n a P k x) (hN : MtN n P k x) (hC : MtC n a P fc fy) (hn : n ≤ 10)
    (hsq : ∀ i j, i < n → j < n → (row a i).length = n ∧ ∃ s : Nat, atS a i j = (s : Int) ∧ s < n)
    (h : IMt w0 w g n SA sc a MA mc vm P CA cc vc fc YA yc vy fy left spent) :
    Calls Try.prog 61 #[.pointer (some ⟨g, 0, none⟩), .int .i64 k9, .int .i64 x9] w (RetM w0 g n SA sc a MA mc vm P CA cc vc fc YA yc vy fy left) := by
  have hkn : ((k : Int) == (n : Int)) = false := by simp; omega
  have hn1 : ((n : Int) == 1) = false := by simp; omega
  have HI := Lib.hid hI
  have HN := Lib.hid hN
  have HC := Lib.hid hC
  have HQ := Lib.hid hsq
  have HSUB := Lib.hid hsub
  obtain ⟨⟨x0, x1, x2⟩, x3, x4, x5⟩ := h.cells
  have S0 : ∃ left' spent', IMt w0 w g n SA sc a MA mc vm P CA cc vc fc YA yc vy fy left' spent' ∧ left' ≤ left := ⟨left, spent, h, Nat.le_refl _⟩
  clear hI hN hC hsq hsub h
  go_enter Try.func61, Try.ntmps61
  go_wp2_with (fail)
  refine (sizeR_any SA n sc w (by omega)).mono ?_
  rintro e w' ⟨rfl, rfl⟩
  go_upto_if 16 with (fail)
  go_cut [1, 2] (fun s1 s2 wx => ∃ u v : Int, s1 = .int .i64 u ∧ s2 = .int .i64 v ∧ u = (k : Int) ∧ v = (x : Int) ∧ Drawn w wx)
  case first =>
    rcases hkx with ⟨e1, e2, e3⟩ | ⟨e1, e2, e3⟩
    · subst e2 e3
      have hxn : ((x : Int) == (n : Int)) = false := by simp; omega
      go_wp2
      go_meet
      exact ⟨_, _, rfl, rfl, rfl, rfl, Drawn.refl _⟩
    · subst x9
      have hk1 := Lib.hid (show (k : Int) = (k9 : Int) + 1 by omega)
      have hk2 : (k9 : Int) + 1 ≤ 9223372036854775807 := by omega
      have hx2 := Lib.hid (show (x : Int) = 1 by omega)
      have hxx : ((n : Int) == (n : Int)) = true := by simp
      clear e2 e3 x0 x1 x2 x3 x4 x5 S0 hk hx1 hx hf hleft hn hn1 hkn
      rw [hxx]
      clear hxx
      go_wp2_with (fail)
      go_meet
      exact ⟨_, _, rfl, rfl, hk1.out.symm, hx2.out.symm, Drawn.refl _⟩
  case rest =>
  obtain ⟨_, _, rfl, rfl, rfl, rfl, hdw⟩ := hcut
  obtain ⟨l9, sp9, h9, hl9⟩ := S0
  have h9 := h9.below hdw.below
  obtain ⟨⟨x0, x1, x2⟩, x3, x4, x5⟩ := h9.cells
  have S0 : ∃ left' spent', IMt w0 wc g n SA sc a MA mc vm P CA cc vc fc YA yc vy fy left' spent' ∧ left' ≤ left := ⟨l9, sp9, h9, hl9⟩
  clear h9 hdw
  go_wp2
  go_loopw [8] (fun i wr => ∃ (y : Nat), y ≤ n ∧ i = .int .i64 y ∧ ∃ left' spent', IMt w0 wr g n SA sc a MA mc vm P CA cc vc fc YA yc vy fy left' spent' ∧ left' ≤ left) (fun i _ => n - (intOf i).toNat)
  case atStart => exact ⟨0, Nat.zero_le _, rfl, S0⟩
  case round =>
    clear S0 x0 x1 x2 x3 x4 x5
    obtain ⟨y, hy, rfl, l1, sp1, h, hl1⟩ := hrel
    by_cases hlt : y < n
    · obtain ⟨hra, s, hs, hsn⟩ := HQ.out x y hx hlt
      have hrp := HI.out.row x hx
      obtain ⟨⟨x0, x1, x2⟩, x3, x4, x5⟩ := h.cells
      obtain ⟨gc, vk, rfl, hvk, ck, ck1, ck2, hck⟩ := h.c.get hk
      obtain ⟨rk, hrk, crk, frk, -, -⟩ := hck y hlt
      obtain ⟨gy, uk, rfl, huk, cu, cu1, cu2, hcu⟩ := h.y.get hk
      obtain ⟨ru, hru, cru, fru, -, -⟩ := hcu s hsn
      obtain ⟨vkA, vkn, vkc⟩ := vk
      obtain ⟨ukA, ukn, ukc⟩ := uk
      simp only [] at hrk hru ck ck1 ck2 cu cu1 cu2
      subst hrk hru
      obtain ⟨ad, RX, rn, rc, rfl, hcx0, hrn, hrc, hRX⟩ := h.o0.get hx
      obtain rfl : rn = n := by rw [← hRX.len]; exact hra
      obtain ⟨ax, rfl, hcz0, -⟩ := hRX.get hlt
      have hs' : nth (row a x) y = (s : Int) := hs
      have HSS := Lib.hid hs
      rw [hs'] at hcz0
      have hcx := below_cell h.b hcx0
      have hcz := below_cell h.b hcz0
      obtain ⟨gs, r, rm, rk2, ⟨rfl, co, fo, hm, mle, kk1, ci, fi, br, rl, iz, -⟩, -⟩ := h.mate hx (y := y) (by rw [hrp]; exact hlt)
      have hyrm : y < rm := by rw [← hm, hrp]; exact hlt
      have hm' : nth (row P x) y = atS P x y := rfl
      have HS := Lib.hid h
      have HM := Lib.hid hm'
      have hbd := HI.out.bd x y hx hlt
      rw [hm'] at ci
      have HAT := Lib.hid (show atS P x y = atS P x y from rfl)
      clear h hck hcu hcx0 hcz0 hra hrp hm hm' hs fo fi frk fru iz br rl
      cases hfc : fc k y with
      | true =>
        rw [hfc] at crk
        clear hfc cru
        go_wp2
        go_quiet (fail)
        go_wp2
        go_roundw
        case rel => exact ⟨y + 1, by omega, by go_num, l1, sp1, HS.out.below (below_drewn _ _), hl1⟩
        case measure => simp [intOf]; omega
      | false =>
        rw [hfc] at crk
        have HFC := Lib.hid hfc
        clear hfc
        cases hfy : fy k s with
        | true =>
          rw [hfy] at cru
          clear hfy
          go_wp2
          go_quiet (fail)
          go_wp2
          go_roundw
          case rel => exact ⟨y + 1, by omega, by go_num, l1, sp1, HS.out.below (below_drewn _ _), hl1⟩
          case measure => simp [intOf]; omega
        | false =>
          rw [hfy] at cru
          have HFY := Lib.hid hfy
          clear hfy
          by_cases h0 : atS P x y ≥ 0
          · have hd0 : decide (atS P x y ≥ 0) = true := by simp; omega
            generalize atS P x y = z at *
            clear h0 HAT HM
            go_wp2
            go_quiet (fail)
            go_wp2
            go_roundw
            case rel => exact ⟨y + 1, by omega, by go_num, l1, sp1, HS.out.below (below_drewn _ _), hl1⟩
            case measure => simp [intOf]; omega
          · have hm1 : atS P x y = -1 := by omega
            have HF := Lib.hid hm1
            rw [hm1] at ci
            clear h0 HAT HM hm1 hbd
            go_wp2
            go_quiet (fail)
            rename_i nq
            have h1 := HS.out.below (below_drewn wr nq)
            generalize wr.drewN nq = W at *
            obtain ⟨⟨y0, y1, -⟩, -⟩ := h1.cells
            have f0 := h1.x.frozen 0
            have f1 := h1.x.frozen 1
            clear x0 x1 x2 x3 x4 x5 ck crk cu cru hcx hcz co ci HS
            cases sp1 with
            | true =>
              go_wp2
              go_ret
              exact .inr ⟨rfl, l1, true, h1, hl1⟩
            | false =>
              have hnode := nodeC_any W g l1 false y0 y1 f0 f1 (by omega)
              by_cases h0 : l1 = 0
              · rw [if_pos h0, show decide (l1 ≠ 0) = false by simp [h0]] at hnode
                have h2 := h1.spent_ true
                clear h1 f0 f1 h0
                go_wp2_with (fail)
                refine hnode.mono ?_
                rintro e w2 ⟨rfl, rfl⟩
                go_wp2
                go_ret
                exact .inr ⟨rfl, l1, true, h2, hl1⟩
              · rw [if_neg h0, show decide (l1 ≠ 0) = true by simp [h0], show (l1 : Int) - 1 = ((l1 - 1 : Nat) : Int) by omega] at hnode
                have h2 := h1.left_ (l1 - 1)
                clear h1 f0 f1 h0
                go_wp2_with (fail)
                refine hnode.mono ?_
                rintro e w2 ⟨rfl, rfl⟩
                generalize W.setCell ⟨g, 0, none⟩ (.int .i64 ((l1 - 1 : Nat) : Int)) = W2 at *
                clear hnode y0 y1
                have hra : (row a x).length = rn := (HQ.out x y hx hlt).1
                have htk := take_any w0 W2 g rn (some ad) sc a (some ⟨gs, 0, none⟩) mc vm P (some ⟨gc, 0, none⟩) cc vc fc (some ⟨gy, 0, none⟩) yc vy fy (l1 - 1) false h2 (by omega) k x y s hk hx hlt hs' hsn hra (HI.out.row x hx) true
                rw [if_pos rfl] at htk
                clear h2 hs'
                go_wp2_with (fail)
                refine htk.mono ?_
                rintro e w3 ⟨rfl, h3⟩
                clear htk
                have hI3 := HI.out.put hk hx hlt HF.out (fun i hi e => by
                    have := (HC.out.col k y hk hlt).2 ⟨i, hi, e⟩
                    rw [HFC.out] at this
                    cases this) (fun i j hi hj e e2 => by
                    have hss := (HQ.out x y hx hlt).2
                    have := (HC.out.sym k s hk hsn).2 ⟨i, j, hi, hj, e, by rw [e2]; exact HSS.out⟩
                    rw [HFY.out] at this
                    cases this) (fun j hj => HN.out k x j hk hx hj (.inr ⟨rfl, Nat.le_refl _⟩))
                have hN3 := HN.out.put HI.out.len HI.out.row hx hlt
                have hC3 := HC.out.put HI.out.len HI.out.row (k := k) hx hlt HF.out HSS.out
                have hsr := HSUB.out w3 (putS P x y (k : Int)) (upd fc k y true) (upd fy k s true) (l1 - 1) false k (x + 1) hk (by omega) (by omega) (by omega) (by omega) hI3 hN3 hC3 h3
                rw [show ((x + 1 : Nat) : Int) = (x : Int) + 1 by omega] at hsr
                clear hI3 hN3 hC3 h3
                go_wp2_with (fail)
                refine hsr.mono ?_
                rintro e w4 (⟨rfl, hdone⟩ | ⟨rfl, l4, sp4, h4, hl4⟩)
                · go_wp2
                  go_ret
                  exact .inl ⟨rfl, hdone⟩
                · have htk := take_any w0 w4 g rn (some ad) sc a (some ⟨gs, 0, none⟩) mc vm (putS P x y (k : Int)) (some ⟨gc, 0, none⟩) cc vc (upd fc k y true) (some ⟨gy, 0, none⟩) yc vy (upd fy k s true) l4 sp4 h4 (by omega) k x y s hk hx hlt HSS.out hsn hra (by rw [row_putS (by rw [HI.out.len]; exact hx), if_pos rfl, List.length_set]; exact HI.out.row x hx) false
                  rw [if_neg (by decide), putM_back HI.out.len HI.out.row hx hlt HF.out, upd_back HFC.out, upd_back HFY.out] at htk
                  clear hsr h4
                  go_wp2_with (fail)
                  refine htk.mono ?_
                  rintro e w5 ⟨rfl, h5⟩
                  clear htk
                  go_wp2
                  go_roundw
                  case rel => exact ⟨y + 1, by omega, by go_num, l4, sp4, h5, by omega⟩
                  case measure => simp [intOf]; omega
    · go_wp2
      go_ret
      exact .inr ⟨rfl, l1, sp1, h, hl1⟩
set_option maxRecDepth 100000 in
set_option maxHeartbeats 2000000 in
/-- the search at its end -/
theorem searchM_end (w0 w : World) (g n : Nat) (SA : Option Addr) (sc : Nat) (a : List (List Int)) (MA : Option Addr) (mc : Nat) (vm : List Sl) (CA : Option Addr) (cc : Nat) (vc : List Sl) (YA : Option Addr) (yc : Nat) (vy : List Sl)
    (P : List (List Int)) (fc fy : Nat → Nat → Bool) (left : Nat) (spent : Bool) (k : Nat) (hk : k < n) (hkn : k + 1 = n ∨ n = 1) (hI : MtI n a P k n) (hn : n ≤ 10)
    (h : IMt w0 w g n SA sc a MA mc vm P CA cc vc fc YA yc vy fy left spent) :
    Calls Try.prog 61 #[.pointer (some ⟨g, 0, none⟩), .int .i64 k, .int .i64 n] w (RetM w0 g n SA sc a MA mc vm P CA cc vc fc YA yc vy fy left) := by
  have HD := Lib.hid ((hI.turn (by omega)).done (by omega))
  have hd : (((k : Int) + 1 == (n : Int)) || ((n : Int) == 1)) = true := by
    rcases hkn with e | e
    · simp; omega
    · simp; omega
  have hk2 : (k : Int) + 1 ≤ 9223372036854775807 := by omega
  obtain ⟨⟨x0, x1, x2⟩, x3, x4, x5⟩ := h.cells
  have HH := Lib.hid h
  clear h hI
  by_cases e : k + 1 = n
  · have e1 : ((k : Int) + 1 == (n : Int)) = true := by simp; omega
    clear hkn hd e
    go_enter Try.func61, Try.ntmps61
    go_wp2_with (go_at_call 48; refine (sizeR_any _ _ _ _ (by omega)).mono ?_; rintro e w' ⟨rfl, rfl⟩)
    go_ret
    exact .inl ⟨rfl, P, fc, fy, left, spent, HH.out, HD.out⟩
  · have e1 : ((k : Int) + 1 == (n : Int)) = false := by simp; omega
    have e2 : ((n : Int) == 1) = true := by simp; omega
    clear hkn hd e
    go_enter Try.func61, Try.ntmps61
    go_wp2_with (go_at_call 48; refine (sizeR_any _ _ _ _ (by omega)).mono ?_; rintro e w' ⟨rfl, rfl⟩)
    go_ret
    exact .inl ⟨rfl, P, fc, fy, left, spent, HH.out, HD.out⟩
theorem searchM_any (w0 : World) (g n : Nat) (SA : Option Addr) (sc : Nat) (a : List (List Int)) (MA : Option Addr) (mc : Nat) (vm : List Sl) (CA : Option Addr) (cc : Nat) (vc : List Sl) (YA : Option Addr) (yc : Nat) (vy : List Sl) (hn : n ≤ 10)
    (hsq : ∀ i j, i < n → j < n → (row a i).length = n ∧ ∃ s : Nat, atS a i j = (s : Int) ∧ s < n) : ∀ f, SubM w0 g n SA sc a MA mc vm CA cc vc YA yc vy f
  | 0 => fun w P fc fy left spent k x hk hx1 hx hf hleft hI hN hC h => by
    exfalso
    have : 1 * n ≤ (n - k) * n := Nat.mul_le_mul_right n (by omega)
    omega
  | f + 1 => fun w P fc fy left spent k x hk hx1 hx hf hleft hI hN hC h => by
    by_cases e : x < n
    · exact searchM_loop w0 w g n SA sc a MA mc vm CA cc vc YA yc vy f (searchM_any w0 g n SA sc a MA mc vm CA cc vc YA yc vy hn hsq f) P fc fy left spent k x k x (.inl ⟨e, rfl, rfl⟩) hk hx1 e hf hleft hI hN hC hn hsq h
    · obtain rfl : x = n := by omega
      by_cases e2 : k + 1 = x ∨ x = 1
      · exact searchM_end w0 w g x SA sc a MA mc vm CA cc vc YA yc vy P fc fy left spent k hk e2 hI hn h
      · have h1 : (x - k) * x = (x - (k + 1)) * x + x := by
          rw [show x - k = (x - (k + 1)) + 1 by omega, Nat.succ_mul]
        exact searchM_loop w0 w g x SA sc a MA mc vm CA cc vc YA yc vy f (searchM_any w0 g x SA sc a MA mc vm CA cc vc YA yc vy hn hsq f) P fc fy left spent k x (k + 1) 1 (.inr ⟨rfl, rfl, rfl⟩) (by omega) (Nat.le_refl _) (by omega) (by omega) hleft (hI.turn (by omega)) hN.turn hC hn hsq h
end Go.Proofs.Ytcnjlkabdfcjdaa
