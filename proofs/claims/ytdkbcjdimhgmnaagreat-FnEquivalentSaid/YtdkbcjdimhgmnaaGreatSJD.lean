/- spec.l03Ok: whether a field in memory is valid. No condition beyond those stated. -/
import Derived.Test.YtdkbcjdimhgmnaaGreatSJC
set_option linter.unusedVariables false
set_option linter.unusedSimpArgs false
namespace Go.Proofs.YtdkbcjdimhgmnaaGreat
open Go.RowKit
structure FAt (w : World) (g : Nat) (P D : Int) (A : Option Addr) (n c : Nat) (f : List Int) : Prop where
  c0 : w.cell? ⟨g, 0, none⟩ = some (.int .i64 P)
  c1 : w.cell? ⟨g, 1, none⟩ = some (.int .i64 D)
  c2 : w.cell? ⟨g, 2, none⟩ = some (.slice A n c)
  ri : RI w A n f
theorem FAt.keep {w w' : World} {g : Nat} {P D : Int} {A : Option Addr} {n c : Nat} {f : List Int} (h : FAt w g P D A n c f) (hb : Below w.heap.size w w') : FAt w' g P D A n c f :=
  ⟨below_cell hb h.c0, below_cell hb h.c1, below_cell hb h.c2, h.ri.keep hb⟩
def splS (q : Int) : Int := if 2 ≤ q ∧ q ≤ 64 then (splF q).1 else 0
theorem splS_iff {P : Int} {k : Nat} (hP : 2 ≤ P) (hk : 1 ≤ k) : splS (P ^ k) = P ↔ P ∈ PR ∧ P ^ k ≤ 64 := by
  have hq2 : 2 ≤ P ^ k := by
    have := pow_mono (p := P) (by omega) hk
    rw [Int.pow_succ, Int.pow_zero, Int.one_mul] at this
    omega
  constructor
  · intro h
    unfold splS at h
    by_cases hc : 2 ≤ P ^ k ∧ P ^ k ≤ 64
    · rw [if_pos hc] at h
      rcases splF_cases (P ^ k) with ⟨p', k', h1, -, h3⟩ | ⟨-, h3⟩
      · rw [h3] at h
        have : p' = P := h
        subst this
        exact ⟨(PKL_ok h1).1, hc.2⟩
      · rw [h3] at h
        have : (0 : Int) = P := h
        omega
    · rw [if_neg hc] at h
      omega
  · rintro ⟨h1, h2⟩
    unfold splS
    rw [if_pos ⟨hq2, h2⟩, splF_of (PKL_mem h1 hk (pow_le64 hP hk h2).2 h2) rfl]
theorem l03Split_s (q : Int) (w : World) (hq : 2 ≤ q) : Calls Tryz.prog 107 #[.int .i64 q] w fun e w' => ∃ k : Int, e = .returned (.tuple #[.int .i64 (splS q), .int .i64 k]) ∧ w = w' := by
  by_cases h : q ≤ 64
  · refine (l03Split_any q w hq h).mono fun e w' ⟨h1, h2⟩ => ⟨(splF q).2, ?_, h2⟩
    rw [h1, splS, if_pos ⟨hq, h⟩]
  · refine (l03Split_out q w (fun hh => h hh.2)).mono fun e w' ⟨h1, h2⟩ => ⟨0, ?_, h2⟩
    rw [h1, splS, if_neg fun hh => h hh.2]
set_option maxRecDepth 100000 in
set_option maxHeartbeats 1600000 in
theorem l03Ok_any (g : Nat) (P D : Int) (A : Option Addr) (n c : Nat) (f : List Int) (w : World) (h : FAt w g P D A n c f) (hP : I64 P) (hD : I64 D) (hn : n ≤ 9223372036854775807) :
    Calls Tryz.prog 48 #[.pointer (some ⟨g, 0, none⟩)] w (RetB w (tB (FldZ P D f))) := by
  have hla := Lib.hid h.ri.len
  have H := Lib.hid h
  have x0 := h.c0
  have x1 := h.c1
  have x2 := h.c2
  have hP1 := hP.1
  have hP2 := hP.2
  have hD1 := hD.1
  have hD2 := hD.2
  have hin : ∀ a lo hi q, Calls Tryz.prog 37 #[.int .i64 a, .int .i64 lo, .int .i64 hi] (w.drewN q) fun e w'' => e = .returned (.bool (inB a lo hi)) ∧ ∃ m, w'' = w.drewN m := fun a lo hi q => Quiet.call ((l00In_any a lo hi _).mono fun _ _ h => Quiet.of_same h)
  clear h
  cases hb1 : inB P 2 64 with
  | false =>
    have HF := Lib.hid (show tB (FldZ P D f) = false from tB_no fun h => by have := PR_bd h.2.pr; rw [inB_mk ⟨by omega, by omega⟩] at hb1; cases hb1)
    go_enter Tryz.func48, Tryz.ntmps48
    go_wp2
    go_quiet ((go_at_call 37; exact hin _ _ _ _))
    go_wp2
    go_ret
    exact ⟨by rw [HF.out]; rfl, below_drewn' _ _ _⟩
  | true =>
    obtain ⟨p2, p64⟩ := inB_true hb1
    cases hb2 : inB D 1 6 with
    | false =>
      have HF := Lib.hid (show tB (FldZ P D f) = false from tB_no fun h => by
        have h1 := h.1
        obtain ⟨k, rfl⟩ : ∃ k : Nat, D = (k : Int) := ⟨D.toNat, by omega⟩
        have h2 := h.2.q64
        rw [Int.toNat_natCast] at h2
        have := (pow_le64 p2 (by omega) h2).2
        rw [inB_mk ⟨by omega, by omega⟩] at hb2; cases hb2)
      go_enter Tryz.func48, Tryz.ntmps48
      go_wp2
      go_quiet ((go_at_call 37; exact hin _ _ _ _))
      go_wp2
      go_ret
      exact ⟨by rw [HF.out]; rfl, below_drewn' _ _ _⟩
    | true =>
      obtain ⟨d1, d6⟩ := inB_true hb2
      obtain ⟨k, rfl⟩ : ∃ k : Nat, D = (k : Int) := ⟨D.toNat, by omega⟩
      have hk1 : 1 ≤ k := by omega
      have hk6 : k ≤ 6 := by omega
      have ew : IntKind.i64.wrap ((k : Int) + 1) = (k : Int) + 1 := IntWalk.i64_in _ (by omega)
      by_cases hnk : n = k + 1
      · have HNK := Lib.hid hnk
        have hkn : k < n := by omega
        have hn7 : n ≤ 7 := by omega
        have hnI : (n : Int) = (k : Int) + 1 := by omega
        have HNI := Lib.hid hnI
        have hnk' : ((n : Int) != (k : Int) + 1) = false := by simp [hnI]
        have kk0 : 0 ≤ (k : Int) := by omega
        have kk1 : (k : Int) < (n : Int) := by omega
        clear hnk hnI
        obtain ⟨ad, rfl, hck, ik1, ik2⟩ := H.out.ri.get hkn
        by_cases hone : nth f k = 1
        · have HONE := Lib.hid hone
          rw [hone] at hck
          clear hone ik1 ik2
          go_enter Tryz.func48, Tryz.ntmps48
          go_wp2
          go_quiet ((go_at_call 37; exact hin _ _ _ _))
          generalize hwx : w.drewN _ = wx
          have hbx : Below w.heap.size w wx := hwx ▸ below_drewn' _ _ _
          have H1 := Lib.hid (H.out.keep hbx)
          clear hwx x0 x1 x2 hck hin
          have x0 := H1.out.c0
          have x1 := H1.out.c1
          have x2 := H1.out.c2
          have hpw : ∀ q, Calls Tryz.prog 106 #[.int .i64 P, .int .i64 k] (wx.drewN q) fun e w'' => e = .returned (.int .i64 (P ^ k)) ∧ ∃ m, w'' = wx.drewN m := fun q => Quiet.call ((l03Power_any P k _ p2 p64 hk6).mono fun _ _ h => Quiet.of_same h)
          have HSP := Lib.hid (splS_iff p2 hk1)
          have hq2 : 2 ≤ P ^ k := by
            have := pow_mono (p := P) (by omega) hk1
            rw [Int.pow_succ, Int.pow_zero, Int.one_mul] at this
            omega
          have HIFF := Lib.hid (fun (h1 : P ∈ PR) (h2 : P ^ k ≤ 64) => fldZ_iff (f := f) h1 hk1 h2 (hla.out.trans HNK.out) HONE.out)
          go_wp2
          go_quiet ((go_at_call 106; exact hpw _))
          generalize hwy : wx.drewN _ = wy
          have hby0 : Below wx.heap.size wx wy := hwy ▸ below_drewn' _ _ _
          have hby := hbx.trans (hby0.mono hbx.size)
          have H2 := Lib.hid (H1.out.keep hby0)
          clear hwy x0 x1 x2 hpw hbx hby0 H1 hb1 hb2 HONE
          have x0 := H2.out.c0
          have x1 := H2.out.c1
          have x2 := H2.out.c2
          go_wp2_with fail
          refine (l03Split_s (P ^ k) wy hq2).mono ?_
          rintro e w' ⟨kk, rfl, rfl⟩
          generalize hq : P ^ k = q at *
          have HQ := Lib.hid hq
          clear hq
          by_cases hs : splS q = P
          · obtain ⟨hpr, hq64⟩ := HSP.out.1 hs
            have HI := Lib.hid (HIFF.out hpr hq64)
            rw [hs]
            clear HSP HIFF hs hpr
            go_wp2
            go_loop [6] (fun i => ∃ j : Nat, j ≤ n ∧ i = .int .i64 j ∧ dgTo P f j) (fun i => n - (intOf i).toNat)
            case atStart => exact ⟨0, Nat.zero_le _, rfl, fun t h => by omega⟩
            case round =>
              obtain ⟨j, hj, rfl, hdg⟩ := hrel
              have HDG := Lib.hid hdg
              clear hdg
              by_cases hlt : j < n
              · obtain ⟨ad', hA, hcj, ij1, ij2⟩ := H2.out.ri.get hlt
                cases hA
                by_cases hi : 0 ≤ nth f j ∧ nth f j ≤ P - 1
                · have HN := Lib.hid (show dgTo P f (j + 1) from fun t ht => by
                    by_cases e : t = j
                    · subst e; omega
                    · exact HDG.out t (by omega))
                  have hwi := l00In_any (nth f j) 0 (P - 1) wy
                  rw [inB_mk hi] at hwi
                  clear hi
                  generalize nth f j = z at *
                  go_wp2_with fail
                  refine hwi.mono ?_
                  rintro e w' ⟨rfl, rfl⟩
                  go_wp2
                  go_round
                  case rel => exact ⟨j + 1, by omega, by go_num, HN.out⟩
                  case measure => simp [intOf]; omega
                · have HF := Lib.hid (show tB (FldZ P (k : Int) f) = false from tB_no fun h => by
                    have := (HI.out.1 h).1 j
                    omega)
                  have hwi := l00In_any (nth f j) 0 (P - 1) wy
                  rw [inB_not hi] at hwi
                  clear hi
                  generalize nth f j = z at *
                  go_wp2_with fail
                  refine hwi.mono ?_
                  rintro e w' ⟨rfl, rfl⟩
                  go_wp2
                  go_ret
                  exact ⟨by rw [HF.out]; rfl, hby⟩
              · obtain rfl : n = j := by omega
                have hDg : Dg P f := Dg.of (by omega) fun t ht => HDG.out t (by rw [hla.out] at ht; exact ht)
                have hir := l03Irreducible_any (some ad) n c f P k wy H2.out.ri HNK.out hDg p2 p64 (by rw [HQ.out]; exact hq64) hk6
                have HT := Lib.hid (show tB (IrrC P k f) = tB (FldZ P (k : Int) f) from by
                  by_cases hi : IrrC P k f
                  · rw [tB_yes hi, tB_yes (HI.out.2 ⟨hDg, hi⟩)]
                  · rw [tB_no hi, tB_no fun h => hi (HI.out.1 h).2])
                clear hDg
                go_wp2_with fail
                refine hir.mono ?_
                rintro e w3 ⟨rfl, hb3⟩
                go_wp2
                go_ret
                exact ⟨by rw [HT.out]; rfl, hby.trans (hb3.mono hby.size)⟩
          · have HF := Lib.hid (show tB (FldZ P (k : Int) f) = false from tB_no fun h => by
              have h1 := h.2.pr
              have h2 := h.2.q64
              rw [Int.toNat_natCast, HQ.out] at h2
              exact hs (HSP.out.2 ⟨h1, h2⟩))
            have hs' : (splS q != P) = true := by simp [hs]
            clear HSP HIFF hs
            generalize splS q = z at *
            go_wp2
            go_ret
            exact ⟨by rw [HF.out]; rfl, hby⟩
        · have HF := Lib.hid (show tB (FldZ P (k : Int) f) = false from tB_no fun h => by have := h.2.mon; rw [Int.toNat_natCast] at this; exact hone this)
          have hone' : (nth f k != 1) = true := by simp [hone]
          clear hone
          generalize nth f k = z at *
          go_enter Tryz.func48, Tryz.ntmps48
          go_wp2
          go_quiet ((go_at_call 37; exact hin _ _ _ _))
          go_wp2
          go_ret
          exact ⟨by rw [HF.out]; rfl, below_drewn' _ _ _⟩
      · have HF := Lib.hid (show tB (FldZ P (k : Int) f) = false from tB_no fun h => by have := h.2.len; rw [Int.toNat_natCast, hla.out] at this; exact hnk this)
        have hnk' : ((n : Int) != (k : Int) + 1) = true := by simp; omega
        go_enter Tryz.func48, Tryz.ntmps48
        go_wp2
        go_quiet ((go_at_call 37; exact hin _ _ _ _))
        go_wp2
        go_ret
        exact ⟨by rw [HF.out]; rfl, below_drewn' _ _ _⟩
def ovTo (F : Nat → Int) (l : List Int) (j : Nat) : List Int := (List.range j).map F ++ l.drop j
theorem ovTo_zero (F : Nat → Int) (l : List Int) : ovTo F l 0 = l := by simp [ovTo]
theorem ovTo_all (F : Nat → Int) (l : List Int) : ovTo F l l.length = (List.range l.length).map F := by simp [ovTo]
theorem ovTo_nth {F : Nat → Int} {l : List Int} {j : Nat} : nth (ovTo F l j) j = nth l j := by
  unfold ovTo nth
  simp [List.getD, List.getElem?_append]
theorem ovTo_step {F : Nat → Int} {l : List Int} {j : Nat} (h : j < l.length) : (ovTo F l j).set j (F j) = ovTo F l (j + 1) := by
  unfold ovTo
  rw [List.set_append_right _ _ (by simp), List.length_map, List.length_range, Nat.sub_self, List.drop_eq_getElem_cons h, List.set_cons_zero, List.range_succ, List.map_append, List.append_assoc]
  rfl
theorem comb_step {x y s c p : Int} (hp : 2 ≤ p) (hp2 : p ≤ 64) (hx : 0 ≤ x) (hx2 : x < p) (hy : 0 ≤ y) (hy2 : y < p) (hs : (s = 1 ∧ c = 1) ∨ (s = -1 ∧ c = p - 1)) :
    IntKind.i64.wrap (s * y) = s * y ∧ IntKind.i64.wrap (x + s * y) = x + s * y ∧ IntKind.i64.wrap (x + s * y + p) = x + s * y + p ∧ (x + s * y + p).tmod p = (x + c * y) % p ∧ 0 ≤ (x + c * y) % p ∧ (x + c * y) % p < p ∧ ¬ p = 0 := by
  have hsy : -64 ≤ s * y ∧ s * y ≤ 64 ∧ 0 ≤ x + s * y + p := by
    rcases hs with ⟨rfl, -⟩ | ⟨rfl, -⟩
    · rw [Int.one_mul]; omega
    · rw [show (-1 : Int) * y = -y from by omega]; omega
  obtain ⟨h1, h2, h3⟩ := hsy
  refine ⟨IntWalk.i64_in _ (by omega), IntWalk.i64_in _ (by omega), IntWalk.i64_in _ (by omega), ?_, Int.emod_nonneg _ (by omega), Int.emod_lt_of_pos _ (by omega), by omega⟩
  rw [Int.tmod_eq_emod_of_nonneg h3]
  rcases hs with ⟨rfl, rfl⟩ | ⟨rfl, rfl⟩
  · exact Cg.iff.1 ⟨1, by rw [Int.mul_one]⟩
  · refine Cg.iff.1 ⟨1 - y, ?_⟩
    rw [Int.mul_sub, Int.sub_mul]; omega
set_option maxHeartbeats 400000 in
theorem fieldSize_any (P : Int) (k : Nat) (A : Option Addr) (n c : Nat) (w : World) (hP : 2 ≤ P) (hP2 : P ≤ 64) (hq : P ^ k ≤ 64) (hk : k ≤ 6) :
    Calls Tryz.prog 53 #[.agg #[.int .i64 P, .int .i64 k, .slice A n c]] w (fun e w' => e = .returned (.int .i64 (P ^ k)) ∧ Below w.heap.size w w') := by
  have hb0 := below_alloc w (.cells #[.int .i64 P, .int .i64 k, .slice A n c] 31)
  go_enter Tryz.func53, Tryz.ntmps53
  go_wp2_with fail
  refine (powerUpTo_any P k 64 _ hP (by omega) (by omega) (by omega) (by omega) (by omega)).mono ?_
  rintro e w' ⟨r, rfl, hcap, rfl⟩
  rw [Int.toNat_natCast] at hcap
  have := hcap.eq hq
  subst this
  go_wp2
  go_ret
  exact ⟨rfl, hb0⟩
set_option maxRecDepth 100000 in
set_option maxHeartbeats 800000 in
theorem combine_any (p : Int) (k : Nat) (A : Option Addr) (n c : Nat) (a b s cc : Int) (w : World) (hp : 2 ≤ p) (hp2 : p ≤ 61) (hq : p ^ k ≤ 64) (hk : k ≤ 6) (ha : 0 ≤ a ∧ a ≤ 64) (hb : 0 ≤ b ∧ b ≤ 64) (hs : (s = 1 ∧ cc = 1) ∨ (s = -1 ∧ cc = p - 1)) :
    Calls Tryz.prog 155 #[.agg #[.int .i64 p, .int .i64 k, .slice A n c], .int .i64 a, .int .i64 b, .int .i64 s] w (fun e w' => e = .returned (.int .i64 (sumP p k cc a b)) ∧ Below w.heap.size w w') := by
  have hb0 := below_alloc w (.cells #[.int .i64 p, .int .i64 k, .slice A n c] 31)
  have X := Blk.new w 31 #[.int .i64 p, .int .i64 k, .slice A n c]
  obtain ⟨a0, a1⟩ := ha
  obtain ⟨b0, b1⟩ := hb
  have hbd := hb0.trans (below_drewn' w.heap.size _ 1)
  have HX := Lib.hid (X.after (below_drewn _ 1))
  have HB := Lib.hid hbd
  have HQ := Lib.hid hq
  clear hq hbd
  go_enter Tryz.func155, Tryz.ntmps155
  obtain ⟨x0, x1, x2⟩ := X.cells3
  go_wp2
  clear x0 x1 x2 X hb0
  go_region_held_law (fun w' => w'.cell? ⟨w.heap.size, 0, none⟩ = some (.int .i64 p) ∧ w'.cell? ⟨w.heap.size, 1, none⟩ = some (.int .i64 k))
    (first | exact ⟨HX.out.cells3.1, HX.out.cells3.2.1⟩ | exact ⟨X2.cells3.1, X2.cells3.2.1⟩ | exact ⟨X3.cells3.1, X3.cells3.2.1⟩)
    ((first
      | (go_at_call_of 172 (Value.int .i64 a); refine (digitsOf_any a p k _ a0 (by omega) hp (by omega) (by omega)).mono ?_; rintro e w2 ⟨A2, n2, c2, rfl, ho2, hb2⟩; have X2 := HX.out.after hb2; have hw2 := HB.out.trans (hb2.mono HB.out.size))
      | (go_at_call_of 172 (Value.int .i64 b); refine (digitsOf_any b p k _ b0 (by omega) hp (by omega) (by omega)).mono ?_; rintro e w3 ⟨A3, n3, c3, rfl, ho3, hb3⟩; have X3 := X2.after hb3; have hw3 := hw2.trans (hb3.mono hw2.size))))
  have hzz : w.heap.size ≤ ((w.alloc (.cells #[.int .i64 p, .int .i64 k, .slice A n c] 31)).drewN 1).heap.size := HB.out.size
  obtain rfl : k = n2 := by rw [← ho2.len, digs_len]
  obtain rfl : k = n3 := by rw [← ho3.len, digs_len]
  have hap : blk A3 = none ∨ blk A3 ≠ blk A2 := by
    cases h3 : blk A3 with
    | none => exact .inl rfl
    | some g3 =>
      refine .inr fun e => ?_
      have := (ho3.os.lt h3).1
      have := (ho2.os.lt e.symm).2
      omega
  have ho2 := (ho2.below hb3).more hzz
  have ho3 := ho3.more hw2.size
  have hD2 := digs_dg (p := p) (by omega) a k
  have hD3 := digs_dg (p := p) (by omega) b k
  have hl2 := digs_len a p k
  clear hw2 hb2 hb3 X2 HX HB hzz
  have HSum := Lib.hid (show sumP p k cc a b = numR ((List.range k).map fun i => (nth (digsP a p k) i + cc * nth (digsP b p k) i) % p) p from rfl)
  generalize digsP a p k = x at *
  generalize digsP b p k = y at *
  have HL2 := Lib.hid hl2
  clear hl2
  rw [← ovTo_zero (fun i => (nth x i + cc * nth y i) % p) x] at ho2
  go_wp2
  go_loopw [11, 26] (fun _ i wr => ∃ j : Nat, j ≤ k ∧ i = .int .i64 j ∧ OI wr w.heap.size 2 A2 k c2 (ovTo (fun i => (nth x i + cc * nth y i) % p) x j) ∧ OI wr w.heap.size 2 A3 k c3 y ∧ Blk wr w.heap.size 31 #[.int .i64 p, .int .i64 k, .slice A n c] ∧ Below w.heap.size w wr) (fun _ i _ => k - (intOf i).toNat)
  case atStart => exact ⟨0, Nat.zero_le _, rfl, ho2, ho3, X3, hw3⟩
  case round =>
    clear ho2 ho3 X3 hw3
    obtain ⟨j, hj, rfl, ho2, ho3, X, hw⟩ := hrel
    by_cases hlt : j < k
    · have hw0 := hw.trans (below_drewn' _ wr 1)
      have ho20 := ho2.below (below_drewn wr 1)
      have ho30 := ho3.below (below_drewn wr 1)
      have X0 := X.after (below_drewn wr 1)
      obtain ⟨gA, rfl, ca, fa, ia⟩ := ho20.cell hlt
      obtain ⟨gB, rfl, cb, fb, ib⟩ := ho30.cell hlt
      rw [ovTo_nth] at ca ia
      obtain ⟨z0, z1⟩ := hD2 j
      obtain ⟨y0, y1⟩ := hD3 j
      obtain ⟨q1, q2, q3, q4, q5, q6, q7⟩ := comb_step (x := nth x j) (y := nth y j) (s := s) (c := cc) hp (by omega) z0 z1 y0 y1 hs
      have HS := Lib.hid (show (ovTo (fun i => (nth x i + cc * nth y i) % p) x j).set j ((nth x j + cc * nth y j) % p) = ovTo (fun i => (nth x i + cc * nth y i) % p) x (j + 1) from ovTo_step (F := fun i => (nth x i + cc * nth y i) % p) (by rw [HL2.out]; exact hlt))
      have hne : some w.heap.size ≠ blk (some ⟨gA, 0, none⟩ : Option Addr) := OS.typed' ho20.os X0 (by decide)
      have hgl := (ho20.os.lt (k := gA) rfl).1
      have hapg : gB ≠ gA := fun e => by
        rcases hap with h | h
        · cases h
        · exact h (by simp [blk, e])
      have hneg : w.heap.size ≠ gA := fun e => hne (by simp [blk, e])
      have o2 := ho20.set j (u := (nth x j + cc * nth y j) % p) ⟨by omega, by omega⟩
      have o3 := ho30.kept (grown_set (g := gA) (p := j) (u := .int .i64 ((nth x j + cc * nth y j) % p))) (.inr fun e => by simp [blk] at e; exact hapg e)
      have XN := X0.far (p := ⟨gA, j, none⟩) hneg (.int .i64 ((nth x j + cc * nth y j) % p))
      have hwN := hw0.setCell (p := ⟨gA, j, none⟩) hgl (.int .i64 ((nth x j + cc * nth y j) % p))
      rw [HS.out] at o2
      have cp := X0.cells3.1
      simp only [← World.drew_is_drewN] at ca fa cb cp o2 o3 XN hwN
      clear ho20 ho30 X0 hw0 ho2 ho3 X hw HS hne hapg hneg q5 q6 ia ib
      generalize nth x j = xx at *
      generalize nth y j = yy at *
      go_wp2
      refine region_last (P := Tryz.prog) (S := fun w' => w'.cell? ⟨gA, j, none⟩ = some (.int .i64 xx) ∧ w'.cell? ⟨gB, j, none⟩ = some (.int .i64 yy) ∧ w'.cell? ⟨w.heap.size, 0, none⟩ = some (.int .i64 p)) (by kernel_rfl) (by simp only [List.getLast?_cons_cons, List.getLast?_singleton]; rfl) (by dsimp only [List.dropLast]) (by kernel_rfl) ⟨ca, cb, cp⟩ ?_
      intro hS
      refine wpAnyH_take (i := 0) (v := ?_) rfl (by kernel_rfl) (by kernel_rfl) (by kernel_rfl) (fun _ _ _ h => h) (Or.inl ⟨by rfl, ?_⟩) (by assumption) ?_
      rotate_left
      · (intro w hSw; (try dsimp only at hSw); go_simp; (try with_reducible rfl))
      simp only [Act.put, List.setIfInBounds_toArray, List.set_cons_zero, List.set_cons_succ]
      refine wpAnyH_take (i := 1) (v := ?_) rfl (by kernel_rfl) (by kernel_rfl) (by kernel_rfl) (fun _ _ _ h => h) (Or.inl ⟨by rfl, ?_⟩) (by assumption) ?_
      rotate_left
      · (intro w hSw; (try dsimp only at hSw); go_simp; (try with_reducible rfl))
      simp only [Act.put, List.setIfInBounds_toArray, List.set_cons_zero, List.set_cons_succ]
      refine wpAnyH_take (i := 2) (v := ?_) rfl (by kernel_rfl) (by kernel_rfl) (by kernel_rfl) (fun _ _ _ h => h) (Or.inl ⟨by rfl, ?_⟩) (by assumption) ?_
      rotate_left
      · (intro w hSw; (try dsimp only at hSw); go_simp; (try with_reducible rfl))
      simp only [Act.put, List.setIfInBounds_toArray, List.set_cons_zero, List.set_cons_succ]
      refine wpAnyH_take (i := 3) (v := ?_) rfl (by kernel_rfl) (by kernel_rfl) (by kernel_rfl) (fun _ _ _ h => h) (Or.inl ⟨by rfl, ?_⟩) (by assumption) ?_
      rotate_left
      · (intro w hSw; (try dsimp only at hSw); go_simp; (try with_reducible rfl))
      simp only [Act.put, List.setIfInBounds_toArray, List.set_cons_zero, List.set_cons_succ]
      refine wpAnyH_take (i := 4) (v := ?_) rfl (by kernel_rfl) (by kernel_rfl) (by kernel_rfl) (fun _ _ _ h => h) (Or.inl ⟨by rfl, ?_⟩) (by assumption) ?_
      rotate_left
      · (intro w hSw; (try dsimp only at hSw); go_simp; (try with_reducible rfl))
      simp only [Act.put, List.setIfInBounds_toArray, List.set_cons_zero, List.set_cons_succ]
      refine wpAnyH_take (i := 5) (v := ?_) rfl (by kernel_rfl) (by kernel_rfl) (by kernel_rfl) (fun _ _ _ h => h) (Or.inl ⟨by rfl, ?_⟩) (by assumption) ?_
      rotate_left
      · (intro w hSw; (try dsimp only at hSw); go_simp; (try with_reducible rfl))
      simp only [Act.put, List.setIfInBounds_toArray, List.set_cons_zero, List.set_cons_succ]
      refine wpAnyH_take (i := 6) (v := ?_) rfl (by kernel_rfl) (by kernel_rfl) (by kernel_rfl) (fun _ _ _ h => h) (Or.inl ⟨by rfl, ?_⟩) (by assumption) ?_
      rotate_left
      · (intro w hSw; (try dsimp only at hSw); go_simp; (try with_reducible rfl))
      simp only [Act.put, List.setIfInBounds_toArray, List.set_cons_zero, List.set_cons_succ]
      refine wpAnyH_take (i := 7) (v := ?_) rfl (by kernel_rfl) (by kernel_rfl) (by kernel_rfl) (fun _ _ _ h => h) (Or.inl ⟨by rfl, ?_⟩) (by assumption) ?_
      rotate_left
      · (intro w hSw; (try dsimp only at hSw); go_simp; (try with_reducible rfl))
      simp only [Act.put, List.setIfInBounds_toArray, List.set_cons_zero, List.set_cons_succ]
      refine wpAnyH_take (i := 8) (v := ?_) rfl (by kernel_rfl) (by kernel_rfl) (by kernel_rfl) (fun _ _ _ h => h) (Or.inl ⟨by rfl, ?_⟩) (by assumption) ?_
      rotate_left
      · (intro w hSw; (try dsimp only at hSw); go_simp; (try with_reducible rfl))
      simp only [Act.put, List.setIfInBounds_toArray, List.set_cons_zero, List.set_cons_succ]
      refine wpAnyH_take (i := 9) (v := ?_) rfl (by kernel_rfl) (by kernel_rfl) (by kernel_rfl) (fun _ _ _ h => h) (Or.inl ⟨by rfl, ?_⟩) (by assumption) ?_
      rotate_left
      · (intro w hSw; (try dsimp only at hSw); go_simp; (try with_reducible rfl))
      simp only [Act.put, List.setIfInBounds_toArray, List.set_cons_zero, List.set_cons_succ]
      refine wpAnyH_take (i := 10) (v := ?_) rfl (by kernel_rfl) (by kernel_rfl) (by kernel_rfl) (fun _ _ _ h => h) (Or.inl ⟨by rfl, ?_⟩) (by assumption) ?_
      rotate_left
      · (intro w hSw; (try dsimp only at hSw); go_simp; (try with_reducible rfl))
      simp only [Act.put, List.setIfInBounds_toArray, List.set_cons_zero, List.set_cons_succ]
      refine wpAnyH_take (i := 11) (v := ?_) rfl (by kernel_rfl) (by kernel_rfl) (by kernel_rfl) (fun _ _ _ h => h) (Or.inl ⟨by rfl, ?_⟩) (by assumption) ?_
      rotate_left
      · (intro w hSw; (try dsimp only at hSw); go_simp; (try with_reducible rfl))
      simp only [Act.put, List.setIfInBounds_toArray, List.set_cons_zero, List.set_cons_succ]
      refine wpAnyH_take (i := 12) (v := ?_) rfl (by kernel_rfl) (by kernel_rfl) (by kernel_rfl) (fun _ _ _ h => h) (Or.inl ⟨by rfl, ?_⟩) (by assumption) ?_
      rotate_left
      · (intro w hSw; (try dsimp only at hSw); go_simp; (try with_reducible rfl))
      simp only [Act.put, List.setIfInBounds_toArray, List.set_cons_zero, List.set_cons_succ]
      refine wpAnyH_take (i := 13) (v := ?_) rfl (by kernel_rfl) (by kernel_rfl) (by kernel_rfl) (fun _ _ _ h => h) (Or.inl ⟨by rfl, ?_⟩) (by assumption) ?_
      rotate_left
      · (intro w hSw; (try dsimp only at hSw); go_simp; (try with_reducible rfl))
      simp only [Act.put, List.setIfInBounds_toArray, List.set_cons_zero, List.set_cons_succ]
      refine wpAnyH_take (i := 14) (v := ?_) rfl (by kernel_rfl) (by kernel_rfl) (by kernel_rfl) (fun _ _ _ h => h) (Or.inl ⟨by rfl, ?_⟩) (by assumption) ?_
      rotate_left
      · (intro w hSw; (try dsimp only at hSw); go_simp; (try with_reducible rfl))
      simp only [Act.put, List.setIfInBounds_toArray, List.set_cons_zero, List.set_cons_succ]
      refine wpAnyH_take (i := 15) (v := ?_) rfl (by kernel_rfl) (by kernel_rfl) (by kernel_rfl) (fun _ _ _ h => h) (Or.inl ⟨by rfl, ?_⟩) (by assumption) ?_
      rotate_left
      · (intro w hSw; (try dsimp only at hSw); go_simp; (try with_reducible rfl))
      simp only [Act.put, List.setIfInBounds_toArray, List.set_cons_zero, List.set_cons_succ]
      refine wpAnyH_take (i := 16) (v := ?_) rfl (by kernel_rfl) (by kernel_rfl) (by kernel_rfl) (fun _ _ _ h => h) (Or.inl ⟨by rfl, ?_⟩) (by assumption) ?_
      rotate_left
      · (intro w hSw; (try dsimp only at hSw); go_simp; (try with_reducible rfl))
      simp only [Act.put, List.setIfInBounds_toArray, List.set_cons_zero, List.set_cons_succ]
      refine wpAnyH_take (i := 17) (v := ?_) rfl (by kernel_rfl) (by kernel_rfl) (by kernel_rfl) (fun _ _ _ h => h) (Or.inl ⟨by rfl, ?_⟩) (by assumption) ?_
      rotate_left
      · (intro w hSw; (try dsimp only at hSw); go_simp; (try with_reducible rfl))
      simp only [Act.put, List.setIfInBounds_toArray, List.set_cons_zero, List.set_cons_succ]
      refine wpAnyH_take (i := 18) (v := ?_) rfl (by kernel_rfl) (by kernel_rfl) (by kernel_rfl) (fun _ _ _ h => h) (Or.inl ⟨by rfl, ?_⟩) (by assumption) ?_
      rotate_left
      · (intro w hSw; (try dsimp only at hSw); go_simp; (try with_reducible rfl))
      simp only [Act.put, List.setIfInBounds_toArray, List.set_cons_zero, List.set_cons_succ]
      refine wpAnyH_take (i := 19) (v := ?_) rfl (by kernel_rfl) (by kernel_rfl) (by kernel_rfl) (fun _ _ _ h => h) (Or.inl ⟨by rfl, ?_⟩) (by assumption) ?_
      rotate_left
      · (intro w hSw; (try dsimp only at hSw); go_simp; (try with_reducible rfl))
      simp only [Act.put, List.setIfInBounds_toArray, List.set_cons_zero, List.set_cons_succ]
      simp only [List.getElem_toArray, List.getElem_cons_succ, List.getElem_cons_zero]
      refine wpAnyH_done (by kernel_rfl) ?_ _
      dsimp only [atEnd]
      clear hS q1 q2 q3 q4 q7
      generalize wr.drew = W at *
      go_wp2
      go_roundw
      case rel => exact ⟨j + 1, by omega, by go_num, o2, o3, XN, hwN⟩
      case measure => simp [intOf]; omega
    · obtain rfl : k = j := by omega
      have hpa : ovTo (fun i => (nth x i + cc * nth y i) % p) x k = (List.range k).map fun i => (nth x i + cc * nth y i) % p := by
        have := ovTo_all (fun i => (nth x i + cc * nth y i) % p) x
        rwa [HL2.out] at this
      rw [hpa] at ho2
      clear hpa
      have hDg := map_dg (p := p) (by omega) k fun i => nth x i + cc * nth y i
      have hnum := numberOf_any A2 k c2 _ p wr ho2.reads hDg hp (by omega) (by rw [List.length_map, List.length_range]; have := HQ.out; omega) (by omega)
      rw [← HSum.out] at hnum
      obtain ⟨y0, y1, y2⟩ := X.cells3
      clear hDg ho2 ho3 X
      go_wp2_with fail
      refine hnum.mono ?_
      rintro e w' ⟨rfl, rfl⟩
      go_wp2
      go_ret
      exact ⟨rfl, hw⟩
theorem sum_step {x y c p : Int} (hp : 2 ≤ p) (hp2 : p ≤ 64) (hx : 0 ≤ x) (hx2 : x < p) (hy : 0 ≤ y) (hy2 : y < p) (hc : 0 ≤ c) (hc2 : c ≤ 64) :
    IntKind.i64.wrap (c * y) = c * y ∧ IntKind.i64.wrap (x + c * y) = x + c * y ∧ (x + c * y).tmod p = (x + c * y) % p ∧ 0 ≤ (x + c * y) % p ∧ (x + c * y) % p < p ∧ ¬ p = 0 := by
  obtain ⟨m1, m2⟩ := mul_bd (a := c) (b := y) (x := 64) (y := 64) hc hc2 hy (by omega)
  exact ⟨IntWalk.i64_in _ (by omega), IntWalk.i64_in _ (by omega), Int.tmod_eq_emod_of_nonneg (by omega), Int.emod_nonneg _ (by omega), Int.emod_lt_of_pos _ (by omega), by omega⟩
set_option maxHeartbeats 400000 in
theorem l03Size_any (g : Nat) (p : Int) (k : Nat) (A : Option Addr) (n c : Nat) (f : List Int) (w : World) (h : FAt w g p k A n c f) (hp : 2 ≤ p) (hp2 : p ≤ 64) (hk : k ≤ 6) :
    Calls Tryz.prog 49 #[.pointer (some ⟨g, 0, none⟩)] w (Quiet w (.int .i64 (p ^ k))) := by
  have x0 := h.c0
  have x1 := h.c1
  go_enter Tryz.func49, Tryz.ntmps49
  go_wp2
  go_quiet ((go_at_call 106; exact Quiet.call ((l03Power_any p k _ hp hp2 hk).mono fun _ _ h => Quiet.of_same h)))
  go_wp2
  go_ret
  exact ⟨rfl, ⟨_, rfl⟩⟩
set_option maxRecDepth 100000 in
set_option maxHeartbeats 800000 in
theorem l03Sum_any (g : Nat) (p : Int) (k : Nat) (A : Option Addr) (n c : Nat) (f : List Int) (a b cc : Int) (w : World) (h : FAt w g p k A n c f) (hp : 2 ≤ p) (hp2 : p ≤ 61) (hq : p ^ k ≤ 64) (hk : k ≤ 6) (ha : 0 ≤ a ∧ a ≤ 64) (hb : 0 ≤ b ∧ b ≤ 64) (hc : 0 ≤ cc ∧ cc ≤ 64) :
    Calls Tryz.prog 207 #[.pointer (some ⟨g, 0, none⟩), .int .i64 a, .int .i64 b, .int .i64 cc] w (fun e w' => e = .returned (.int .i64 (sumP p k cc a b)) ∧ Below w.heap.size w w') := by
  obtain ⟨a0, a1⟩ := ha
  obtain ⟨b0, b1⟩ := hb
  obtain ⟨c0, c1⟩ := hc
  have HQ := Lib.hid hq
  have H := Lib.hid h
  have HF1 := Lib.hid (h.keep (below_drewn w 1))
  have x0 := h.c0
  have x1 := h.c1
  clear hq h
  go_enter Tryz.func207, Tryz.ntmps207
  go_wp2
  clear x0 x1
  go_region_held_law (fun w' => w'.cell? ⟨g, 0, none⟩ = some (.int .i64 p) ∧ w'.cell? ⟨g, 1, none⟩ = some (.int .i64 k))
    (first | exact ⟨HF1.out.c0, HF1.out.c1⟩ | exact ⟨HF2.out.c0, HF2.out.c1⟩)
    ((go_at_call 166; refine (l03Digits_any a p k _ a0 (by omega) hp (by omega) (by omega)).mono ?_; rintro e w2 ⟨A2, n2, c2, rfl, ho2, hb2⟩; have HF2 := Lib.hid (HF1.out.keep hb2)))
  have hw2 := (below_drewn w 1).trans (hb2.mono (Nat.le_refl _))
  have hzz : w.heap.size ≤ (w.drewN 1).heap.size := Nat.le_refl _
  obtain rfl : k = n2 := by rw [← ho2.len, digs_len]
  have HF3 := Lib.hid (HF2.out.keep (below_drewn w2 1))
  have x0 := HF2.out.c0
  have x1 := HF2.out.c1
  have ho2 := (ho2.below (below_drewn w2 1)).more hzz
  clear hb2
  go_wp2
  clear x0 x1
  go_region_held_law (fun w' => w'.cell? ⟨g, 0, none⟩ = some (.int .i64 p) ∧ w'.cell? ⟨g, 1, none⟩ = some (.int .i64 k))
    (first | exact ⟨HF3.out.c0, HF3.out.c1⟩ | exact ⟨HF4.out.c0, HF4.out.c1⟩)
    ((go_at_call 166; refine (l03Digits_any b p k _ b0 (by omega) hp (by omega) (by omega)).mono ?_; rintro e w3 ⟨A3, n3, c3, rfl, ho3, hb3⟩; have HF4 := Lib.hid (HF3.out.keep hb3)))
  have hw3 := (hw2.trans (below_drewn' _ w2 1)).trans (hb3.mono hw2.size)
  obtain rfl : k = n3 := by rw [← ho3.len, digs_len]
  have hap : blk A3 = none ∨ blk A3 ≠ blk A2 := by
    cases h3 : blk A3 with
    | none => exact .inl rfl
    | some g3 =>
      refine .inr fun e => ?_
      have h1 : w2.heap.size ≤ g3 := (ho3.os.lt h3).1
      have h2 : g3 < w2.heap.size := (ho2.os.lt e.symm).2
      omega
  have ho2 := ho2.below hb3
  have ho3 := ho3.more (show w.heap.size ≤ (w2.drewN 1).heap.size from hw2.size)
  have hD2 := digs_dg (p := p) (by omega) a k
  have hD3 := digs_dg (p := p) (by omega) b k
  have hl2 := digs_len a p k
  clear hw2 hb3 hzz HF1 HF2 HF3 HF4
  have HSum := Lib.hid (show sumP p k cc a b = numR ((List.range k).map fun i => (nth (digsP a p k) i + cc * nth (digsP b p k) i) % p) p from rfl)
  generalize digsP a p k = x at *
  generalize digsP b p k = y at *
  have HL2 := Lib.hid hl2
  clear hl2
  rw [← ovTo_zero (fun i => (nth x i + cc * nth y i) % p) x] at ho2
  go_wp2
  go_loopw [11] (fun i wr => ∃ j : Nat, j ≤ k ∧ i = .int .i64 j ∧ OI wr w.heap.size 2 A2 k c2 (ovTo (fun i => (nth x i + cc * nth y i) % p) x j) ∧ OI wr w.heap.size 2 A3 k c3 y ∧ Below w.heap.size w wr) (fun i _ => k - (intOf i).toNat)
  case atStart => exact ⟨0, Nat.zero_le _, rfl, ho2, ho3, hw3⟩
  case round =>
    clear ho2 ho3 hw3
    obtain ⟨j, hj, rfl, ho2, ho3, hw⟩ := hrel
    by_cases hlt : j < k
    · have hw0 := hw.trans (below_drewn' _ wr 1)
      have ho20 := ho2.below (below_drewn wr 1)
      have ho30 := ho3.below (below_drewn wr 1)
      have X0 := H.out.keep hw0
      obtain ⟨gA, rfl, ca, fa, ia⟩ := ho20.cell hlt
      obtain ⟨gB, rfl, cb, fb, ib⟩ := ho30.cell hlt
      rw [ovTo_nth] at ca ia
      obtain ⟨z0, z1⟩ := hD2 j
      obtain ⟨y0, y1⟩ := hD3 j
      obtain ⟨q1, q2, q4, q5, q6, q7⟩ := sum_step (x := nth x j) (y := nth y j) (c := cc) hp (by omega) z0 z1 y0 y1 c0 c1
      have HS := Lib.hid (show (ovTo (fun i => (nth x i + cc * nth y i) % p) x j).set j ((nth x j + cc * nth y j) % p) = ovTo (fun i => (nth x i + cc * nth y i) % p) x (j + 1) from ovTo_step (F := fun i => (nth x i + cc * nth y i) % p) (by rw [HL2.out]; exact hlt))
      have hgl := (ho20.os.lt (k := gA) rfl).1
      have hapg : gB ≠ gA := fun e => by
        rcases hap with h | h
        · cases h
        · exact h (by simp [blk, e])
      have o2 := ho20.set j (u := (nth x j + cc * nth y j) % p) ⟨by omega, by omega⟩
      have o3 := ho30.kept (grown_set (g := gA) (p := j) (u := .int .i64 ((nth x j + cc * nth y j) % p))) (.inr fun e => by simp [blk] at e; exact hapg e)
      have hwN := hw0.setCell (p := ⟨gA, j, none⟩) hgl (.int .i64 ((nth x j + cc * nth y j) % p))
      rw [HS.out] at o2
      have cp := X0.c0
      simp only [← World.drew_is_drewN] at ca fa cb cp o2 o3 hwN
      clear ho20 ho30 X0 hw0 ho2 ho3 hw HS hapg q5 q6 ia ib
      generalize nth x j = xx at *
      generalize nth y j = yy at *
      go_wp2
      refine region_last (P := Tryz.prog) (S := fun w' => w'.cell? ⟨gA, j, none⟩ = some (.int .i64 xx) ∧ w'.cell? ⟨gB, j, none⟩ = some (.int .i64 yy) ∧ w'.cell? ⟨g, 0, none⟩ = some (.int .i64 p)) (by kernel_rfl) (by simp only [List.getLast?_cons_cons, List.getLast?_singleton]; rfl) (by dsimp only [List.dropLast]) (by kernel_rfl) ⟨ca, cb, cp⟩ ?_
      intro hS
      refine wpAnyH_take (i := 0) (v := ?_) rfl (by kernel_rfl) (by kernel_rfl) (by kernel_rfl) (fun _ _ _ h => h) (Or.inl ⟨by rfl, ?_⟩) (by assumption) ?_
      rotate_left
      · (intro w hSw; (try dsimp only at hSw); go_simp; (try with_reducible rfl))
      simp only [Act.put, List.setIfInBounds_toArray, List.set_cons_zero, List.set_cons_succ]
      refine wpAnyH_take (i := 1) (v := ?_) rfl (by kernel_rfl) (by kernel_rfl) (by kernel_rfl) (fun _ _ _ h => h) (Or.inl ⟨by rfl, ?_⟩) (by assumption) ?_
      rotate_left
      · (intro w hSw; (try dsimp only at hSw); go_simp; (try with_reducible rfl))
      simp only [Act.put, List.setIfInBounds_toArray, List.set_cons_zero, List.set_cons_succ]
      refine wpAnyH_take (i := 2) (v := ?_) rfl (by kernel_rfl) (by kernel_rfl) (by kernel_rfl) (fun _ _ _ h => h) (Or.inl ⟨by rfl, ?_⟩) (by assumption) ?_
      rotate_left
      · (intro w hSw; (try dsimp only at hSw); go_simp; (try with_reducible rfl))
      simp only [Act.put, List.setIfInBounds_toArray, List.set_cons_zero, List.set_cons_succ]
      refine wpAnyH_take (i := 3) (v := ?_) rfl (by kernel_rfl) (by kernel_rfl) (by kernel_rfl) (fun _ _ _ h => h) (Or.inl ⟨by rfl, ?_⟩) (by assumption) ?_
      rotate_left
      · (intro w hSw; (try dsimp only at hSw); go_simp; (try with_reducible rfl))
      simp only [Act.put, List.setIfInBounds_toArray, List.set_cons_zero, List.set_cons_succ]
      refine wpAnyH_take (i := 4) (v := ?_) rfl (by kernel_rfl) (by kernel_rfl) (by kernel_rfl) (fun _ _ _ h => h) (Or.inl ⟨by rfl, ?_⟩) (by assumption) ?_
      rotate_left
      · (intro w hSw; (try dsimp only at hSw); go_simp; (try with_reducible rfl))
      simp only [Act.put, List.setIfInBounds_toArray, List.set_cons_zero, List.set_cons_succ]
      refine wpAnyH_take (i := 5) (v := ?_) rfl (by kernel_rfl) (by kernel_rfl) (by kernel_rfl) (fun _ _ _ h => h) (Or.inl ⟨by rfl, ?_⟩) (by assumption) ?_
      rotate_left
      · (intro w hSw; (try dsimp only at hSw); go_simp; (try with_reducible rfl))
      simp only [Act.put, List.setIfInBounds_toArray, List.set_cons_zero, List.set_cons_succ]
      refine wpAnyH_take (i := 6) (v := ?_) rfl (by kernel_rfl) (by kernel_rfl) (by kernel_rfl) (fun _ _ _ h => h) (Or.inl ⟨by rfl, ?_⟩) (by assumption) ?_
      rotate_left
      · (intro w hSw; (try dsimp only at hSw); go_simp; (try with_reducible rfl))
      simp only [Act.put, List.setIfInBounds_toArray, List.set_cons_zero, List.set_cons_succ]
      refine wpAnyH_take (i := 7) (v := ?_) rfl (by kernel_rfl) (by kernel_rfl) (by kernel_rfl) (fun _ _ _ h => h) (Or.inl ⟨by rfl, ?_⟩) (by assumption) ?_
      rotate_left
      · (intro w hSw; (try dsimp only at hSw); go_simp; (try with_reducible rfl))
      simp only [Act.put, List.setIfInBounds_toArray, List.set_cons_zero, List.set_cons_succ]
      refine wpAnyH_take (i := 8) (v := ?_) rfl (by kernel_rfl) (by kernel_rfl) (by kernel_rfl) (fun _ _ _ h => h) (Or.inl ⟨by rfl, ?_⟩) (by assumption) ?_
      rotate_left
      · (intro w hSw; (try dsimp only at hSw); go_simp; (try with_reducible rfl))
      simp only [Act.put, List.setIfInBounds_toArray, List.set_cons_zero, List.set_cons_succ]
      refine wpAnyH_take (i := 9) (v := ?_) rfl (by kernel_rfl) (by kernel_rfl) (by kernel_rfl) (fun _ _ _ h => h) (Or.inl ⟨by rfl, ?_⟩) (by assumption) ?_
      rotate_left
      · (intro w hSw; (try dsimp only at hSw); go_simp; (try with_reducible rfl))
      simp only [Act.put, List.setIfInBounds_toArray, List.set_cons_zero, List.set_cons_succ]
      refine wpAnyH_take (i := 10) (v := ?_) rfl (by kernel_rfl) (by kernel_rfl) (by kernel_rfl) (fun _ _ _ h => h) (Or.inl ⟨by rfl, ?_⟩) (by assumption) ?_
      rotate_left
      · (intro w hSw; (try dsimp only at hSw); go_simp; (try with_reducible rfl))
      simp only [Act.put, List.setIfInBounds_toArray, List.set_cons_zero, List.set_cons_succ]
      refine wpAnyH_take (i := 11) (v := ?_) rfl (by kernel_rfl) (by kernel_rfl) (by kernel_rfl) (fun _ _ _ h => h) (Or.inl ⟨by rfl, ?_⟩) (by assumption) ?_
      rotate_left
      · (intro w hSw; (try dsimp only at hSw); go_simp; (try with_reducible rfl))
      simp only [Act.put, List.setIfInBounds_toArray, List.set_cons_zero, List.set_cons_succ]
      refine wpAnyH_take (i := 12) (v := ?_) rfl (by kernel_rfl) (by kernel_rfl) (by kernel_rfl) (fun _ _ _ h => h) (Or.inl ⟨by rfl, ?_⟩) (by assumption) ?_
      rotate_left
      · (intro w hSw; (try dsimp only at hSw); go_simp; (try with_reducible rfl))
      simp only [Act.put, List.setIfInBounds_toArray, List.set_cons_zero, List.set_cons_succ]
      refine wpAnyH_take (i := 13) (v := ?_) rfl (by kernel_rfl) (by kernel_rfl) (by kernel_rfl) (fun _ _ _ h => h) (Or.inl ⟨by rfl, ?_⟩) (by assumption) ?_
      rotate_left
      · (intro w hSw; (try dsimp only at hSw); go_simp; (try with_reducible rfl))
      simp only [Act.put, List.setIfInBounds_toArray, List.set_cons_zero, List.set_cons_succ]
      refine wpAnyH_take (i := 14) (v := ?_) rfl (by kernel_rfl) (by kernel_rfl) (by kernel_rfl) (fun _ _ _ h => h) (Or.inl ⟨by rfl, ?_⟩) (by assumption) ?_
      rotate_left
      · (intro w hSw; (try dsimp only at hSw); go_simp; (try with_reducible rfl))
      simp only [Act.put, List.setIfInBounds_toArray, List.set_cons_zero, List.set_cons_succ]
      refine wpAnyH_take (i := 15) (v := ?_) rfl (by kernel_rfl) (by kernel_rfl) (by kernel_rfl) (fun _ _ _ h => h) (Or.inl ⟨by rfl, ?_⟩) (by assumption) ?_
      rotate_left
      · (intro w hSw; (try dsimp only at hSw); go_simp; (try with_reducible rfl))
      simp only [Act.put, List.setIfInBounds_toArray, List.set_cons_zero, List.set_cons_succ]
      refine wpAnyH_take (i := 16) (v := ?_) rfl (by kernel_rfl) (by kernel_rfl) (by kernel_rfl) (fun _ _ _ h => h) (Or.inl ⟨by rfl, ?_⟩) (by assumption) ?_
      rotate_left
      · (intro w hSw; (try dsimp only at hSw); go_simp; (try with_reducible rfl))
      simp only [Act.put, List.setIfInBounds_toArray, List.set_cons_zero, List.set_cons_succ]
      refine wpAnyH_take (i := 17) (v := ?_) rfl (by kernel_rfl) (by kernel_rfl) (by kernel_rfl) (fun _ _ _ h => h) (Or.inl ⟨by rfl, ?_⟩) (by assumption) ?_
      rotate_left
      · (intro w hSw; (try dsimp only at hSw); go_simp; (try with_reducible rfl))
      simp only [Act.put, List.setIfInBounds_toArray, List.set_cons_zero, List.set_cons_succ]
      refine wpAnyH_take (i := 18) (v := ?_) rfl (by kernel_rfl) (by kernel_rfl) (by kernel_rfl) (fun _ _ _ h => h) (Or.inl ⟨by rfl, ?_⟩) (by assumption) ?_
      rotate_left
      · (intro w hSw; (try dsimp only at hSw); go_simp; (try with_reducible rfl))
      simp only [Act.put, List.setIfInBounds_toArray, List.set_cons_zero, List.set_cons_succ]
      simp only [List.getElem_toArray, List.getElem_cons_succ, List.getElem_cons_zero]
      refine wpAnyH_done (by kernel_rfl) ?_ _
      dsimp only [atEnd]
      clear hS q1 q2 q4 q7
      generalize wr.drew = W at *
      go_wp2
      go_roundw
      case rel => exact ⟨j + 1, by omega, by go_num, o2, o3, hwN⟩
      case measure => simp [intOf]; omega
    · obtain rfl : k = j := by omega
      have hpa : ovTo (fun i => (nth x i + cc * nth y i) % p) x k = (List.range k).map fun i => (nth x i + cc * nth y i) % p := by
        have := ovTo_all (fun i => (nth x i + cc * nth y i) % p) x
        rwa [HL2.out] at this
      rw [hpa] at ho2
      clear hpa
      have hDg := map_dg (p := p) (by omega) k fun i => nth x i + cc * nth y i
      have hnum := l03Number_any A2 k c2 _ p wr ho2.reads hDg hp (by omega) (by rw [List.length_map, List.length_range]; have := HQ.out; omega) (by omega)
      rw [← HSum.out] at hnum
      have y0 := (H.out.keep hw).c0
      clear hDg ho2 ho3
      go_wp2_with fail
      refine hnum.mono ?_
      rintro e w' ⟨rfl, rfl⟩
      go_wp2
      go_ret
      exact ⟨rfl, hw⟩
theorem linF_set {z : List Int} {t : Nat} (ht : t < z.length) (v : Int) (ψ : Nat → Int) : linF (z.set t v) ψ = linF z ψ + (v - nth z t) * ψ t := by
  unfold linF
  rw [List.length_set]
  have h1 : ∀ i, nth (z.set t v) i * ψ i = nth z i * ψ i + (if i = t then (v - nth z t) * ψ t else 0) := fun i => by
    rw [nth_setI ht]
    by_cases e : i = t
    · subst e; rw [if_pos rfl, if_pos rfl]; exact (show ∀ X y z : Int, X * z = y * z + (X - y) * z from fun X y z => by rw [Int.sub_mul]; omega) _ _ _
    · rw [if_neg e, if_neg e, Int.add_zero]
  rw [sumN_congr fun i _ => h1 i, sumN_add, sumN_at ht]
structure ConvSt (p : Int) (k : Nat) (x y : List Int) (L i j : Nat) (z : List Int) : Prop where
  len : z.length = L
  dg : Dg p z
  lin : ∀ ψ : Nat → Int, Cg p (linF z ψ) ((sumN i fun a => sumN k fun b => nth x a * nth y b * ψ (a + b)) + sumN j fun b => nth x i * nth y b * ψ (i + b))
theorem ConvSt.start {p : Int} (h0 : 0 < p) (k : Nat) (x y : List Int) (L : Nat) : ConvSt p k x y L 0 0 (List.replicate L 0) := by
  have hz : ∀ t, nth (List.replicate L (0 : Int)) t = 0 := fun t => by
    unfold nth
    simp [List.getD, List.getElem?_replicate]
    split <;> rfl
  refine ⟨by simp, fun t => by rw [hz]; omega, fun ψ => Cg.of_eq ?_⟩
  rw [sumN, sumN]
  exact sumN_zero fun t _ => by rw [hz, Int.zero_mul]
theorem ConvSt.step {p : Int} (h0 : 0 < p) {k : Nat} {x y : List Int} {L i j : Nat} {z : List Int} (h : ConvSt p k x y L i j z) (hl : i + j < L) : ConvSt p k x y L i (j + 1) (z.set (i + j) ((nth z (i + j) + nth x i * nth y j) % p)) := by
  have ht : i + j < z.length := by rw [h.len]; exact hl
  refine ⟨by rw [List.length_set, h.len], fun t => ?_, fun ψ => ?_⟩
  · rw [nth_setI ht]
    split
    · exact ⟨Int.emod_nonneg _ (by omega), Int.emod_lt_of_pos _ h0⟩
    · exact h.dg t
  · rw [linF_set ht, sumN]
    have m : Cg p ((nth z (i + j) + nth x i * nth y j) % p - nth z (i + j)) (nth x i * nth y j) := by
      refine ((Cg.mod p _).sub (Cg.rfl_ p _)).trans (Cg.of_eq ?_)
      omega
    refine ((h.lin ψ).add (m.mul_right (ψ (i + j)))).trans (Cg.of_eq ?_)
    omega
theorem ConvSt.row {p : Int} {k : Nat} {x y : List Int} {L i : Nat} {z : List Int} (h : ConvSt p k x y L i k z) : ConvSt p k x y L (i + 1) 0 z :=
  ⟨h.len, h.dg, fun ψ => (h.lin ψ).trans (Cg.of_eq (by rw [sumN, sumN, Int.add_zero]))⟩
theorem ConvSt.done {p : Int} {k : Nat} {x y : List Int} {L : Nat} {z : List Int} (h : ConvSt p k x y L k 0 z) : ∀ ψ : Nat → Int, Cg p (linF z ψ) (sumN k fun a => sumN k fun b => nth x a * nth y b * ψ (a + b)) := fun ψ =>
  (h.lin ψ).trans (Cg.of_eq (by rw [sumN, Int.add_zero]))
theorem prod_step {v x y p : Int} (hp : 2 ≤ p) (hp2 : p ≤ 64) (hv : 0 ≤ v) (hv2 : v < p) (hx : 0 ≤ x) (hx2 : x < p) (hy : 0 ≤ y) (hy2 : y < p) :
    IntKind.i64.wrap (x * y) = x * y ∧ IntKind.i64.wrap (v + x * y) = v + x * y ∧ (v + x * y).tmod p = (v + x * y) % p ∧ 0 ≤ (v + x * y) % p ∧ (v + x * y) % p < p ∧ ¬ p = 0 := by
  obtain ⟨m1, m2⟩ := mul_bd (a := x) (b := y) (x := 64) (y := 64) hx (by omega) hy (by omega)
  exact ⟨IntWalk.i64_in _ (by omega), IntWalk.i64_in _ (by omega), Int.tmod_eq_emod_of_nonneg (by omega), Int.emod_nonneg _ (by omega), Int.emod_lt_of_pos _ (by omega), by omega⟩
theorem apart_of {w2 w3 : World} {B2 : Nat} {e2 e3 : TypeId} {A2 A3 : Option Addr} {n2 c2 n3 c3 : Nat} {x y : List Int} {B3 : Nat} (h2 : OI w2 B2 e2 A2 n2 c2 x) (h3 : OI w3 B3 e3 A3 n3 c3 y) (hB : w2.heap.size ≤ B3) : blk A3 = none ∨ blk A3 ≠ blk A2 := by
  cases h : blk A3 with
  | none => exact .inl rfl
  | some g3 =>
    refine .inr fun e => ?_
    have h1 := (h3.os.lt h).1
    have h2 := (h2.os.lt e.symm).2
    omega
set_option maxRecDepth 100000 in
set_option maxHeartbeats 800000 in
theorem product_any (p : Int) (k : Nat) (A : Option Addr) (n c : Nat) (f : List Int) (a b : Int) (w : World) (hf : FldOk p k f) (hr : RI w A n f) (ha : 0 ≤ a ∧ a ≤ 64) (hb : 0 ≤ b ∧ b ≤ 64) :
    Calls Tryz.prog 156 #[.agg #[.int .i64 p, .int .i64 k, .slice A n c], .int .i64 a, .int .i64 b] w (fun e w' => e = .returned (.int .i64 (mulP p k f a b)) ∧ Below w.heap.size w w') := by
  obtain ⟨hp, hp2⟩ := PR_bd hf.pr
  have hk := (pow_le64 hp hf.k1 hf.q64).2
  have hk1 := hf.k1
  have HFl := Lib.hid hf
  have hnk : n = k + 1 := by rw [← hr.len, hf.len]
  have hn7 : n ≤ 7 := by omega
  have hn1 : 1 ≤ n := by omega
  have HNK := Lib.hid hnk
  have hb0 := below_alloc w (.cells #[.int .i64 p, .int .i64 k, .slice A n c] 31)
  have X := Blk.new w 31 #[.int .i64 p, .int .i64 k, .slice A n c]
  obtain ⟨a0, a1⟩ := ha
  obtain ⟨b0, b1⟩ := hb
  have hbd := hb0.trans (below_drewn' w.heap.size _ 1)
  have HX := Lib.hid (X.after (below_drewn _ 1))
  have HB := Lib.hid hbd
  clear hf hbd hnk
  go_enter Tryz.func156, Tryz.ntmps156
  obtain ⟨x0, x1, x2⟩ := X.cells3
  go_wp2
  clear x0 x1 x2 X hb0
  go_region_held_law (fun w' => w'.cell? ⟨w.heap.size, 0, none⟩ = some (.int .i64 p) ∧ w'.cell? ⟨w.heap.size, 1, none⟩ = some (.int .i64 k))
    (first | exact ⟨HX.out.cells3.1, HX.out.cells3.2.1⟩ | exact ⟨X2.cells3.1, X2.cells3.2.1⟩ | exact ⟨X3.cells3.1, X3.cells3.2.1⟩)
    ((first
      | (go_at_call_of 172 (Value.int .i64 a); refine (digitsOf_any a p k _ a0 (by omega) hp (by omega) (by omega)).mono ?_; rintro e w2 ⟨A2, n2, c2, rfl, ho2, hb2⟩; have X2 := HX.out.after hb2; have hw2 := HB.out.trans (hb2.mono HB.out.size))
      | (go_at_call_of 172 (Value.int .i64 b); refine (digitsOf_any b p k _ b0 (by omega) hp (by omega) (by omega)).mono ?_; rintro e w3 ⟨A3, n3, c3, rfl, ho3, hb3⟩; have X3 := X2.after hb3; have hw3 := hw2.trans (hb3.mono hw2.size))))
  have hzz : w.heap.size ≤ ((w.alloc (.cells #[.int .i64 p, .int .i64 k, .slice A n c] 31)).drewN 1).heap.size := HB.out.size
  obtain rfl : k = n2 := by rw [← ho2.len, digs_len]
  obtain rfl : k = n3 := by rw [← ho3.len, digs_len]
  have hap := apart_of ho2 ho3 (Nat.le_refl _)
  have ho2 := (ho2.below hb3).more hzz
  have ho3 := ho3.more hw2.size
  have hD2 := digs_dg (p := p) (by omega) a k
  have hD3 := digs_dg (p := p) (by omega) b k
  clear hw2 hb2 hb3 X2 HX HB hzz
  have HMul := Lib.hid (fun (z : List Int) (L : Nat) (hL : k ≤ L) (h : ConvSt p k (digsP a p k) (digsP b p k) L k 0 z) => show numR (remP p f z) p = mulP p k f a b from rem_mul HFl.out h.dg (by rw [h.len]; exact hL) h.done)
  generalize digsP a p k = x at *
  generalize digsP b p k = y at *
  have hmk := run_make_row' (P := Tryz.prog) 22 2 (.int .i64 0) 8 Tryz.underlying22 int_info rfl .i64 .i64 (2 * k) (by omega) (by omega)
  have e2k : ((2 * k : Nat) : Int) = 2 * (k : Int) := by omega
  rw [e2k] at hmk
  obtain ⟨x0, x1, x2⟩ := X3.cells3
  have hz0 := OI.made w3 w.heap.size 2 (2 * k) hw3.size (by omega)
  have hbz := below_alloc w3 (.cells (madeCells #[.int .i64 0] (2 * k)) 2)
  have hapx : blk A2 = none ∨ blk A2 ≠ some w3.heap.size := by
    cases h : blk A2 with
    | none => exact .inl rfl
    | some g2 => exact .inr fun e => by injection e with e; have := (ho2.os.lt h).2; omega
  have hapy : blk A3 = none ∨ blk A3 ≠ some w3.heap.size := by
    cases h : blk A3 with
    | none => exact .inl rfl
    | some g2 => exact .inr fun e => by injection e with e; have := (ho3.os.lt h).2; omega
  have ho2 := ho2.below hbz
  have ho3 := ho3.below hbz
  have X4 := X3.after hbz
  have hw4 := hw3.trans (hbz.mono hw3.size)
  have hC := ConvSt.start (p := p) (by omega) k x y (2 * k)
  generalize hzl : List.replicate (2 * k) (0 : Int) = z0 at *
  clear hzl e2k
  go_wp2
  have hgz : w.heap.size ≤ w3.heap.size := hw3.size
  generalize w3.heap.size = gz at *
  have hk2 : k ≤ 2 * k := by omega
  go_loopw [10, 11, 30, 35] (fun _ _ i _ wr => ∃ (u : Nat) (z : List Int), u ≤ k ∧ i = .int .i64 u ∧ ConvSt p k x y (2 * k) u 0 z ∧ OI wr w.heap.size 2 (some ⟨gz, 0, none⟩) (2 * k) (2 * k) z ∧ OI wr w.heap.size 2 A2 k c2 x ∧ OI wr w.heap.size 2 A3 k c3 y ∧ Blk wr w.heap.size 31 #[.int .i64 p, .int .i64 k, .slice A n c] ∧ Below w.heap.size w wr) (fun _ _ i _ _ => k - (intOf i).toNat)
  case atStart => exact ⟨0, _, Nat.zero_le _, rfl, hC, hz0, ho2, ho3, X4, hw4⟩
  case round =>
    clear hC hz0 ho2 ho3 X4 hw4 x0 x1 x2 X3 hw3 hbz
    obtain ⟨u, z, hu, rfl, hC, hz, ho2, ho3, X, hw⟩ := hrel
    by_cases hul : u < k
    · go_wp2
      obtain ⟨wo, rfl⟩ : ∃ wo : World, wo = wr := ⟨_, rfl⟩
      go_loopw [11, 35] (fun _ i wi => ∃ (v : Nat) (z : List Int), v ≤ k ∧ i = .int .i64 v ∧ ConvSt p k x y (2 * k) u v z ∧ OI wi w.heap.size 2 (some ⟨gz, 0, none⟩) (2 * k) (2 * k) z ∧ OI wi w.heap.size 2 A2 k c2 x ∧ OI wi w.heap.size 2 A3 k c3 y ∧ Blk wi w.heap.size 31 #[.int .i64 p, .int .i64 k, .slice A n c] ∧ Below w.heap.size w wi) (fun _ i _ => k - (intOf i).toNat)
      case atStart => exact ⟨0, z, Nat.zero_le _, rfl, hC, hz, ho2, ho3, X, hw⟩
      case round =>
        clear hC hz ho2 ho3 X hw
        obtain ⟨v, z, hv, rfl, hC, hz, ho2, ho3, X, hw⟩ := hrel
        by_cases hvl : v < k
        · have hw0 := hw.trans (below_drewn' _ wr 1)
          have hz0 := hz.below (below_drewn wr 1)
          have ho20 := ho2.below (below_drewn wr 1)
          have ho30 := ho3.below (below_drewn wr 1)
          have X0 := X.after (below_drewn wr 1)
          have huv : u + v < 2 * k := by omega
          obtain ⟨gz', hgz', cz, fz, iz⟩ := hz0.cell huv
          cases hgz'
          obtain ⟨gA, hA2, ca, fa, ia⟩ := ho20.cell hul
          obtain ⟨gB, hA3, cb, fb, ib⟩ := ho30.cell hvl
          obtain ⟨z0, z1⟩ := hC.dg (u + v)
          obtain ⟨xx0, xx1⟩ := hD2 u
          obtain ⟨y0, y1⟩ := hD3 v
          obtain ⟨q1, q2, q4, q5, q6, q7⟩ := prod_step (v := nth z (u + v)) (x := nth x u) (y := nth y v) hp (by omega) z0 z1 xx0 xx1 y0 y1
          have HC := Lib.hid (hC.step (by omega) huv)
          have hne : some w.heap.size ≠ blk (some ⟨gz, 0, none⟩ : Option Addr) := OS.typed' hz0.os X0 (by decide)
          have hneg : w.heap.size ≠ gz := fun e => hne (by simp [blk, e])
          have oz := hz0.set (u + v) (u := (nth z (u + v) + nth x u * nth y v) % p) ⟨by omega, by omega⟩
          have o2 := ho20.kept (grown_set (g := gz) (p := u + v) (u := .int .i64 ((nth z (u + v) + nth x u * nth y v) % p))) hapx
          have o3 := ho30.kept (grown_set (g := gz) (p := u + v) (u := .int .i64 ((nth z (u + v) + nth x u * nth y v) % p))) hapy
          have XN := X0.far (p := ⟨gz, u + v, none⟩) hneg (.int .i64 ((nth z (u + v) + nth x u * nth y v) % p))
          have hwN := hw0.setCell (p := ⟨gz, u + v, none⟩) hgz (.int .i64 ((nth z (u + v) + nth x u * nth y v) % p))
          have cp := X0.cells3.1
          have EI := Lib.hid (show (u : Int) + (v : Int) = ((u + v : Nat) : Int) by omega)
          subst hA2 hA3
          simp only [← World.drew_is_drewN] at cz fz ca cb cp oz o2 o3 XN hwN
          clear hz0 ho20 ho30 X0 hw0 hz ho2 ho3 X hw hC hne hneg q5 q6 ia ib iz fa fb
          generalize nth z (u + v) = zz at *
          generalize hat : u + v = at_ at *
          have ei : (u : Int) + (v : Int) = (at_ : Int) := EI.out
          have ew : IntKind.i64.wrap (at_ : Int) = (at_ : Int) := IntWalk.i64_in _ (by omega)
          have hatI : (at_ : Int) < 2 * (k : Int) := by omega
          clear hat EI
          generalize nth x u = xx at *
          generalize nth y v = yy at *
          go_wp2
          refine region_last (P := Tryz.prog) (S := fun w' => w'.cell? ⟨gz, at_, none⟩ = some (.int .i64 zz) ∧ w'.cell? ⟨gA, u, none⟩ = some (.int .i64 xx) ∧ w'.cell? ⟨gB, v, none⟩ = some (.int .i64 yy) ∧ w'.cell? ⟨w.heap.size, 0, none⟩ = some (.int .i64 p)) (by kernel_rfl) (by simp only [List.getLast?_cons_cons, List.getLast?_singleton]; rfl) (by dsimp only [List.dropLast]) (by kernel_rfl) ⟨cz, ca, cb, cp⟩ ?_
          intro hS
          refine wpAnyH_take (i := 0) (v := ?_) rfl (by kernel_rfl) (by kernel_rfl) (by kernel_rfl) (fun _ _ _ h => h) (Or.inl ⟨by rfl, ?_⟩) (by assumption) ?_
          rotate_left
          · (intro w hSw; (try dsimp only at hSw); go_simp; (try with_reducible rfl))
          simp only [Act.put, List.setIfInBounds_toArray, List.set_cons_zero, List.set_cons_succ]
          refine wpAnyH_take (i := 1) (v := ?_) rfl (by kernel_rfl) (by kernel_rfl) (by kernel_rfl) (fun _ _ _ h => h) (Or.inl ⟨by rfl, ?_⟩) (by assumption) ?_
          rotate_left
          · (intro w hSw; (try dsimp only at hSw); go_simp; (try with_reducible rfl))
          simp only [Act.put, List.setIfInBounds_toArray, List.set_cons_zero, List.set_cons_succ]
          refine wpAnyH_take (i := 2) (v := ?_) rfl (by kernel_rfl) (by kernel_rfl) (by kernel_rfl) (fun _ _ _ h => h) (Or.inl ⟨by rfl, ?_⟩) (by assumption) ?_
          rotate_left
          · (intro w hSw; (try dsimp only at hSw); go_simp; (try with_reducible rfl))
          simp only [Act.put, List.setIfInBounds_toArray, List.set_cons_zero, List.set_cons_succ]
          refine wpAnyH_take (i := 3) (v := ?_) rfl (by kernel_rfl) (by kernel_rfl) (by kernel_rfl) (fun _ _ _ h => h) (Or.inl ⟨by rfl, ?_⟩) (by assumption) ?_
          rotate_left
          · (intro w hSw; (try dsimp only at hSw); go_simp; (try with_reducible rfl))
          simp only [Act.put, List.setIfInBounds_toArray, List.set_cons_zero, List.set_cons_succ]
          refine wpAnyH_take (i := 4) (v := ?_) rfl (by kernel_rfl) (by kernel_rfl) (by kernel_rfl) (fun _ _ _ h => h) (Or.inl ⟨by rfl, ?_⟩) (by assumption) ?_
          rotate_left
          · (intro w hSw; (try dsimp only at hSw); go_simp; (try with_reducible rfl))
          simp only [Act.put, List.setIfInBounds_toArray, List.set_cons_zero, List.set_cons_succ]
          refine wpAnyH_take (i := 5) (v := ?_) rfl (by kernel_rfl) (by kernel_rfl) (by kernel_rfl) (fun _ _ _ h => h) (Or.inl ⟨by rfl, ?_⟩) (by assumption) ?_
          rotate_left
          · (intro w hSw; (try dsimp only at hSw); go_simp; (try with_reducible rfl))
          simp only [Act.put, List.setIfInBounds_toArray, List.set_cons_zero, List.set_cons_succ]
          refine wpAnyH_take (i := 6) (v := ?_) rfl (by kernel_rfl) (by kernel_rfl) (by kernel_rfl) (fun _ _ _ h => h) (Or.inl ⟨by rfl, ?_⟩) (by assumption) ?_
          rotate_left
          · (intro w hSw; (try dsimp only at hSw); go_simp; (try with_reducible rfl))
          simp only [Act.put, List.setIfInBounds_toArray, List.set_cons_zero, List.set_cons_succ]
          refine wpAnyH_take (i := 7) (v := ?_) rfl (by kernel_rfl) (by kernel_rfl) (by kernel_rfl) (fun _ _ _ h => h) (Or.inl ⟨by rfl, ?_⟩) (by assumption) ?_
          rotate_left
          · (intro w hSw; (try dsimp only at hSw); go_simp; (try with_reducible rfl))
          simp only [Act.put, List.setIfInBounds_toArray, List.set_cons_zero, List.set_cons_succ]
          refine wpAnyH_take (i := 8) (v := ?_) rfl (by kernel_rfl) (by kernel_rfl) (by kernel_rfl) (fun _ _ _ h => h) (Or.inl ⟨by rfl, ?_⟩) (by assumption) ?_
          rotate_left
          · (intro w hSw; (try dsimp only at hSw); go_simp; (try with_reducible rfl))
          simp only [Act.put, List.setIfInBounds_toArray, List.set_cons_zero, List.set_cons_succ]
          refine wpAnyH_take (i := 9) (v := ?_) rfl (by kernel_rfl) (by kernel_rfl) (by kernel_rfl) (fun _ _ _ h => h) (Or.inl ⟨by rfl, ?_⟩) (by assumption) ?_
          rotate_left
          · (intro w hSw; (try dsimp only at hSw); go_simp; (try with_reducible rfl))
          simp only [Act.put, List.setIfInBounds_toArray, List.set_cons_zero, List.set_cons_succ]
          refine wpAnyH_take (i := 10) (v := ?_) rfl (by kernel_rfl) (by kernel_rfl) (by kernel_rfl) (fun _ _ _ h => h) (Or.inl ⟨by rfl, ?_⟩) (by assumption) ?_
          rotate_left
          · (intro w hSw; (try dsimp only at hSw); go_simp; (try with_reducible rfl))
          simp only [Act.put, List.setIfInBounds_toArray, List.set_cons_zero, List.set_cons_succ]
          refine wpAnyH_take (i := 11) (v := ?_) rfl (by kernel_rfl) (by kernel_rfl) (by kernel_rfl) (fun _ _ _ h => h) (Or.inl ⟨by rfl, ?_⟩) (by assumption) ?_
          rotate_left
          · (intro w hSw; (try dsimp only at hSw); go_simp; (try with_reducible rfl))
          simp only [Act.put, List.setIfInBounds_toArray, List.set_cons_zero, List.set_cons_succ]
          refine wpAnyH_take (i := 12) (v := ?_) rfl (by kernel_rfl) (by kernel_rfl) (by kernel_rfl) (fun _ _ _ h => h) (Or.inl ⟨by rfl, ?_⟩) (by assumption) ?_
          rotate_left
          · (intro w hSw; (try dsimp only at hSw); go_simp; (try with_reducible rfl))
          simp only [Act.put, List.setIfInBounds_toArray, List.set_cons_zero, List.set_cons_succ]
          refine wpAnyH_take (i := 13) (v := ?_) rfl (by kernel_rfl) (by kernel_rfl) (by kernel_rfl) (fun _ _ _ h => h) (Or.inl ⟨by rfl, ?_⟩) (by assumption) ?_
          rotate_left
          · (intro w hSw; (try dsimp only at hSw); go_simp; (try with_reducible rfl))
          simp only [Act.put, List.setIfInBounds_toArray, List.set_cons_zero, List.set_cons_succ]
          refine wpAnyH_take (i := 14) (v := ?_) rfl (by kernel_rfl) (by kernel_rfl) (by kernel_rfl) (fun _ _ _ h => h) (Or.inl ⟨by rfl, ?_⟩) (by assumption) ?_
          rotate_left
          · (intro w hSw; (try dsimp only at hSw); go_simp; (try with_reducible rfl))
          simp only [Act.put, List.setIfInBounds_toArray, List.set_cons_zero, List.set_cons_succ]
          refine wpAnyH_take (i := 15) (v := ?_) rfl (by kernel_rfl) (by kernel_rfl) (by kernel_rfl) (fun _ _ _ h => h) (Or.inl ⟨by rfl, ?_⟩) (by assumption) ?_
          rotate_left
          · (intro w hSw; (try dsimp only at hSw); go_simp; (try with_reducible rfl))
          simp only [Act.put, List.setIfInBounds_toArray, List.set_cons_zero, List.set_cons_succ]
          refine wpAnyH_take (i := 16) (v := ?_) rfl (by kernel_rfl) (by kernel_rfl) (by kernel_rfl) (fun _ _ _ h => h) (Or.inl ⟨by rfl, ?_⟩) (by assumption) ?_
          rotate_left
          · (intro w hSw; (try dsimp only at hSw); go_simp; (try with_reducible rfl))
          simp only [Act.put, List.setIfInBounds_toArray, List.set_cons_zero, List.set_cons_succ]
          refine wpAnyH_take (i := 17) (v := ?_) rfl (by kernel_rfl) (by kernel_rfl) (by kernel_rfl) (fun _ _ _ h => h) (Or.inl ⟨by rfl, ?_⟩) (by assumption) ?_
          rotate_left
          · (intro w hSw; (try dsimp only at hSw); go_simp; (try with_reducible rfl))
          simp only [Act.put, List.setIfInBounds_toArray, List.set_cons_zero, List.set_cons_succ]
          refine wpAnyH_take (i := 18) (v := ?_) rfl (by kernel_rfl) (by kernel_rfl) (by kernel_rfl) (fun _ _ _ h => h) (Or.inl ⟨by rfl, ?_⟩) (by assumption) ?_
          rotate_left
          · (intro w hSw; (try dsimp only at hSw); go_simp; (try with_reducible rfl))
          simp only [Act.put, List.setIfInBounds_toArray, List.set_cons_zero, List.set_cons_succ]
          refine wpAnyH_take (i := 19) (v := ?_) rfl (by kernel_rfl) (by kernel_rfl) (by kernel_rfl) (fun _ _ _ h => h) (Or.inl ⟨by rfl, ?_⟩) (by assumption) ?_
          rotate_left
          · (intro w hSw; (try dsimp only at hSw); go_simp; (try with_reducible rfl))
          simp only [Act.put, List.setIfInBounds_toArray, List.set_cons_zero, List.set_cons_succ]
          refine wpAnyH_take (i := 20) (v := ?_) rfl (by kernel_rfl) (by kernel_rfl) (by kernel_rfl) (fun _ _ _ h => h) (Or.inl ⟨by rfl, ?_⟩) (by assumption) ?_
          rotate_left
          · (intro w hSw; (try dsimp only at hSw); go_simp; (try with_reducible rfl))
          simp only [Act.put, List.setIfInBounds_toArray, List.set_cons_zero, List.set_cons_succ]
          refine wpAnyH_take (i := 21) (v := ?_) rfl (by kernel_rfl) (by kernel_rfl) (by kernel_rfl) (fun _ _ _ h => h) (Or.inl ⟨by rfl, ?_⟩) (by assumption) ?_
          rotate_left
          · (intro w hSw; (try dsimp only at hSw); go_simp; (try with_reducible rfl))
          simp only [Act.put, List.setIfInBounds_toArray, List.set_cons_zero, List.set_cons_succ]
          refine wpAnyH_take (i := 22) (v := ?_) rfl (by kernel_rfl) (by kernel_rfl) (by kernel_rfl) (fun _ _ _ h => h) (Or.inl ⟨by rfl, ?_⟩) (by assumption) ?_
          rotate_left
          · (intro w hSw; (try dsimp only at hSw); go_simp; (try with_reducible rfl))
          simp only [Act.put, List.setIfInBounds_toArray, List.set_cons_zero, List.set_cons_succ]
          refine wpAnyH_take (i := 23) (v := ?_) rfl (by kernel_rfl) (by kernel_rfl) (by kernel_rfl) (fun _ _ _ h => h) (Or.inl ⟨by rfl, ?_⟩) (by assumption) ?_
          rotate_left
          · (intro w hSw; (try dsimp only at hSw); go_simp; (try with_reducible rfl))
          simp only [Act.put, List.setIfInBounds_toArray, List.set_cons_zero, List.set_cons_succ]
          simp only [List.getElem_toArray, List.getElem_cons_succ, List.getElem_cons_zero]
          refine wpAnyH_done (by kernel_rfl) ?_ _
          dsimp only [atEnd]
          clear hS q1 q2 q4 q7 ew
          generalize wr.drew = W at *
          go_wp2
          go_roundw
          case rel => exact ⟨v + 1, _, by omega, by go_num, HC.out, oz, o2, o3, XN, hwN⟩
          case measure => simp [intOf]; omega
        · obtain rfl : k = v := by omega
          have hC2 := hC.row
          go_wp2
          go_roundw
          case rel => exact ⟨u + 1, z, by omega, by go_num, hC2, hz, ho2, ho3, X, hw⟩
          case measure => simp [intOf]; omega
    · obtain rfl : k = u := by omega
      have HR := Lib.hid (HMul.out z (2 * k) hk2 hC)
      have hDz := hC.dg
      have HLR := Lib.hid (remP_len HFl.out (z := z) (by rw [hC.len]; exact hk2))
      have hw1 := hw.trans (below_drewn' _ wr 1)
      have HX := Lib.hid (X.after (below_drewn wr 1))
      have hz1 := hz.below (below_drewn wr 1)
      have hrm := remainder_any (some ⟨gz, 0, none⟩) (2 * k) (2 * k) z A n c f p (wr.drewN 1) hz1.reads (hr.keep hw1) hDz HFl.out.dg hp (by omega) (by omega) (by omega) (by omega) hn1
      have hmin : min (n - 1) (2 * k) ≤ 7 := by omega
      have HLK := Lib.hid (show ∀ L : Nat, L = k → p ^ L ≤ 1000000 from fun L e => by subst e; have := HFl.out.q64; omega)
      obtain ⟨x0, x1, x2⟩ := X.cells3
      clear hz1 hC ho2 ho3 hz hDz
      go_wp2
      clear x0 x1 x2 X
      go_region_held_law (fun w' => w'.cell? ⟨w.heap.size, 0, none⟩ = some (.int .i64 p) ∧ w'.cell? ⟨w.heap.size, 2, none⟩ = some (.slice A n c))
        (first | exact ⟨HX.out.cells3.1, HX.out.cells3.2.2⟩ | exact ⟨X5.cells3.1, X5.cells3.2.2⟩)
        ((first
          | (go_at_call 214; refine hrm.mono ?_; rintro e w5 ⟨A5, c5, rfl, ho5, hb5, hD5⟩; have X5 := HX.out.after hb5; have hw5 := hw1.trans (hb5.mono hw1.size))
          | (go_at_call 213; refine (numberOf_any A5 (min (n - 1) (2 * k)) c5 _ p _ ho5.reads hD5 hp (by omega) (HLK.out _ HLR.out) (by omega)).mono ?_; rintro e w6 ⟨rfl, rfl⟩)))
      all_goals
        go_wp2
        go_ret
        exact ⟨by rw [HR.out]; rfl, hw5⟩
set_option maxRecDepth 100000 in
set_option maxHeartbeats 800000 in
theorem l03Mul_any (g : Nat) (p : Int) (k : Nat) (A : Option Addr) (n c : Nat) (f : List Int) (a b : Int) (w : World) (h : FAt w g p k A n c f) (hf : FldOk p k f) (ha : 0 ≤ a ∧ a ≤ 64) (hb : 0 ≤ b ∧ b ≤ 64) :
    Calls Tryz.prog 206 #[.pointer (some ⟨g, 0, none⟩), .int .i64 a, .int .i64 b] w (fun e w' => e = .returned (.int .i64 (mulP p k f a b)) ∧ Below w.heap.size w w') := by
  obtain ⟨hp, hp2⟩ := PR_bd hf.pr
  have hk := (pow_le64 hp hf.k1 hf.q64).2
  have hk1 := hf.k1
  have HFl := Lib.hid hf
  have hr := h.ri
  have hnk : n = k + 1 := by rw [← hr.len, hf.len]
  have hn7 : n ≤ 7 := by omega
  have hn1 : 1 ≤ n := by omega
  have HNK := Lib.hid hnk
  obtain ⟨a0, a1⟩ := ha
  obtain ⟨b0, b1⟩ := hb
  have H := Lib.hid h
  have HF1 := Lib.hid (h.keep (below_drewn w 1))
  have x0 := h.c0
  have x1 := h.c1
  clear hf hnk h
  go_enter Tryz.func206, Tryz.ntmps206
  go_wp2
  clear x0 x1
  go_region_held_law (fun w' => w'.cell? ⟨g, 0, none⟩ = some (.int .i64 p) ∧ w'.cell? ⟨g, 1, none⟩ = some (.int .i64 k))
    (first | exact ⟨HF1.out.c0, HF1.out.c1⟩ | exact ⟨HF2.out.c0, HF2.out.c1⟩)
    ((go_at_call 166; refine (l03Digits_any a p k _ a0 (by omega) hp (by omega) (by omega)).mono ?_; rintro e w2 ⟨A2, n2, c2, rfl, ho2, hb2⟩; have HF2 := Lib.hid (HF1.out.keep hb2)))
  have hw2 := (below_drewn w 1).trans (hb2.mono (Nat.le_refl _))
  have hzz : w.heap.size ≤ (w.drewN 1).heap.size := Nat.le_refl _
  obtain rfl : k = n2 := by rw [← ho2.len, digs_len]
  have HF3 := Lib.hid (HF2.out.keep (below_drewn w2 1))
  have x0 := HF2.out.c0
  have x1 := HF2.out.c1
  have ho2 := (ho2.below (below_drewn w2 1)).more hzz
  clear hb2
  go_wp2
  clear x0 x1
  go_region_held_law (fun w' => w'.cell? ⟨g, 0, none⟩ = some (.int .i64 p) ∧ w'.cell? ⟨g, 1, none⟩ = some (.int .i64 k))
    (first | exact ⟨HF3.out.c0, HF3.out.c1⟩ | exact ⟨HF4.out.c0, HF4.out.c1⟩)
    ((go_at_call 166; refine (l03Digits_any b p k _ b0 (by omega) hp (by omega) (by omega)).mono ?_; rintro e w3 ⟨A3, n3, c3, rfl, ho3, hb3⟩; have HF4 := Lib.hid (HF3.out.keep hb3)))
  have hw3 := (hw2.trans (below_drewn' _ w2 1)).trans (hb3.mono hw2.size)
  obtain rfl : k = n3 := by rw [← ho3.len, digs_len]
  have hap := apart_of ho2 ho3 (Nat.le_refl _)
  have ho2 := ho2.below hb3
  have ho3 := ho3.more (show w.heap.size ≤ (w2.drewN 1).heap.size from hw2.size)
  have hD2 := digs_dg (p := p) (by omega) a k
  have hD3 := digs_dg (p := p) (by omega) b k
  have x0 := HF4.out.c0
  have x1 := HF4.out.c1
  have x2 := HF4.out.c2
  clear hw2 hb3 hzz HF1 HF2 HF3
  have HMul := Lib.hid (fun (z : List Int) (L : Nat) (hL : k ≤ L) (h : ConvSt p k (digsP a p k) (digsP b p k) L k 0 z) => show numR (remP p f z) p = mulP p k f a b from rem_mul HFl.out h.dg (by rw [h.len]; exact hL) h.done)
  generalize digsP a p k = x at *
  generalize digsP b p k = y at *
  obtain ⟨L, hL⟩ : ∃ L : Nat, L = 2 * k - 1 := ⟨_, rfl⟩
  have hmk := run_make_row' (P := Tryz.prog) 22 2 (.int .i64 0) 8 Tryz.underlying22 int_info rfl .i64 .i64 L (by omega) (by omega)
  have e2k : (L : Int) = 2 * (k : Int) - 1 := by omega
  rw [e2k] at hmk
  have hz0 := OI.made w3 w.heap.size 2 L hw3.size (by omega)
  have hbz := below_alloc w3 (.cells (madeCells #[.int .i64 0] L) 2)
  have hapx : blk A2 = none ∨ blk A2 ≠ some w3.heap.size := by
    cases h : blk A2 with
    | none => exact .inl rfl
    | some g2 => exact .inr fun e => by injection e with e; have := (ho2.os.lt h).2; omega
  have hapy : blk A3 = none ∨ blk A3 ≠ some w3.heap.size := by
    cases h : blk A3 with
    | none => exact .inl rfl
    | some g2 => exact .inr fun e => by injection e with e; have := (ho3.os.lt h).2; omega
  have ho2 := ho2.below hbz
  have ho3 := ho3.below hbz
  have hw4 := hw3.trans (hbz.mono hw3.size)
  have hC := ConvSt.start (p := p) (by omega) k x y L
  generalize hzl : List.replicate L (0 : Int) = z0 at *
  have hLk : k ≤ L := by omega
  have hLu : ∀ u v : Nat, u < k → v < k → u + v < L := fun u v h1 h2 => by omega
  have HLU := Lib.hid hLu
  have hL12 : L ≤ 12 := by omega
  clear hzl e2k hL hLu
  go_wp2
  have hgz : w.heap.size ≤ w3.heap.size := hw3.size
  generalize w3.heap.size = gz at *
  go_loopw [10, 11] (fun i _ wr => ∃ (u : Nat) (z : List Int), u ≤ k ∧ i = .int .i64 u ∧ ConvSt p k x y L u 0 z ∧ OI wr w.heap.size 2 (some ⟨gz, 0, none⟩) L L z ∧ OI wr w.heap.size 2 A2 k c2 x ∧ OI wr w.heap.size 2 A3 k c3 y ∧ Below w.heap.size w wr) (fun i _ _ => k - (intOf i).toNat)
  case atStart => exact ⟨0, _, Nat.zero_le _, rfl, hC, hz0, ho2, ho3, hw4⟩
  case round =>
    clear hC hz0 ho2 ho3 hw4 x0 x1 x2 hw3 hbz HF4
    obtain ⟨u, z, hu, rfl, hC, hz, ho2, ho3, hw⟩ := hrel
    by_cases hul : u < k
    · go_wp2
      obtain ⟨wo, rfl⟩ : ∃ wo : World, wo = wr := ⟨_, rfl⟩
      go_loopw [11] (fun i wi => ∃ (v : Nat) (z : List Int), v ≤ k ∧ i = .int .i64 v ∧ ConvSt p k x y L u v z ∧ OI wi w.heap.size 2 (some ⟨gz, 0, none⟩) L L z ∧ OI wi w.heap.size 2 A2 k c2 x ∧ OI wi w.heap.size 2 A3 k c3 y ∧ Below w.heap.size w wi) (fun i _ => k - (intOf i).toNat)
      case atStart => exact ⟨0, z, Nat.zero_le _, rfl, hC, hz, ho2, ho3, hw⟩
      case round =>
        clear hC hz ho2 ho3 hw
        obtain ⟨v, z, hv, rfl, hC, hz, ho2, ho3, hw⟩ := hrel
        by_cases hvl : v < k
        · have hw0 := hw.trans (below_drewn' _ wr 1)
          have hz0 := hz.below (below_drewn wr 1)
          have ho20 := ho2.below (below_drewn wr 1)
          have ho30 := ho3.below (below_drewn wr 1)
          have X0 := H.out.keep hw0
          have huv : u + v < L := HLU.out u v hul hvl
          obtain ⟨gz', hgz', cz, fz, iz⟩ := hz0.cell huv
          cases hgz'
          obtain ⟨gA, hA2, ca, fa, ia⟩ := ho20.cell hul
          obtain ⟨gB, hA3, cb, fb, ib⟩ := ho30.cell hvl
          obtain ⟨z0, z1⟩ := hC.dg (u + v)
          obtain ⟨xx0, xx1⟩ := hD2 u
          obtain ⟨y0, y1⟩ := hD3 v
          obtain ⟨q1, q2, q4, q5, q6, q7⟩ := prod_step (v := nth z (u + v)) (x := nth x u) (y := nth y v) hp (by omega) z0 z1 xx0 xx1 y0 y1
          have HC := Lib.hid (hC.step (by omega) huv)
          have oz := hz0.set (u + v) (u := (nth z (u + v) + nth x u * nth y v) % p) ⟨by omega, by omega⟩
          have o2 := ho20.kept (grown_set (g := gz) (p := u + v) (u := .int .i64 ((nth z (u + v) + nth x u * nth y v) % p))) hapx
          have o3 := ho30.kept (grown_set (g := gz) (p := u + v) (u := .int .i64 ((nth z (u + v) + nth x u * nth y v) % p))) hapy
          have hwN := hw0.setCell (p := ⟨gz, u + v, none⟩) hgz (.int .i64 ((nth z (u + v) + nth x u * nth y v) % p))
          have cp := X0.c0
          have EI := Lib.hid (show (u : Int) + (v : Int) = ((u + v : Nat) : Int) by omega)
          subst hA2 hA3
          simp only [← World.drew_is_drewN] at cz fz ca cb cp oz o2 o3 hwN
          clear hz0 ho20 ho30 X0 hw0 hz ho2 ho3 hw hC q5 q6 ia ib iz fa fb
          generalize nth z (u + v) = zz at *
          generalize hat : u + v = at_ at *
          have ei : (u : Int) + (v : Int) = (at_ : Int) := EI.out
          have ew : IntKind.i64.wrap (at_ : Int) = (at_ : Int) := IntWalk.i64_in _ (by omega)
          have hatI : (at_ : Int) < (L : Int) := by omega
          clear hat EI
          generalize nth x u = xx at *
          generalize nth y v = yy at *
          go_wp2
          refine region_last (P := Tryz.prog) (S := fun w' => w'.cell? ⟨gz, at_, none⟩ = some (.int .i64 zz) ∧ w'.cell? ⟨gA, u, none⟩ = some (.int .i64 xx) ∧ w'.cell? ⟨gB, v, none⟩ = some (.int .i64 yy) ∧ w'.cell? ⟨g, 0, none⟩ = some (.int .i64 p)) (by kernel_rfl) (by simp only [List.getLast?_cons_cons, List.getLast?_singleton]; rfl) (by dsimp only [List.dropLast]) (by kernel_rfl) ⟨cz, ca, cb, cp⟩ ?_
          intro hS
          refine wpAnyH_take (i := 0) (v := ?_) rfl (by kernel_rfl) (by kernel_rfl) (by kernel_rfl) (fun _ _ _ h => h) (Or.inl ⟨by rfl, ?_⟩) (by assumption) ?_
          rotate_left
          · (intro w hSw; (try dsimp only at hSw); go_simp; (try with_reducible rfl))
          simp only [Act.put, List.setIfInBounds_toArray, List.set_cons_zero, List.set_cons_succ]
          refine wpAnyH_take (i := 1) (v := ?_) rfl (by kernel_rfl) (by kernel_rfl) (by kernel_rfl) (fun _ _ _ h => h) (Or.inl ⟨by rfl, ?_⟩) (by assumption) ?_
          rotate_left
          · (intro w hSw; (try dsimp only at hSw); go_simp; (try with_reducible rfl))
          simp only [Act.put, List.setIfInBounds_toArray, List.set_cons_zero, List.set_cons_succ]
          refine wpAnyH_take (i := 2) (v := ?_) rfl (by kernel_rfl) (by kernel_rfl) (by kernel_rfl) (fun _ _ _ h => h) (Or.inl ⟨by rfl, ?_⟩) (by assumption) ?_
          rotate_left
          · (intro w hSw; (try dsimp only at hSw); go_simp; (try with_reducible rfl))
          simp only [Act.put, List.setIfInBounds_toArray, List.set_cons_zero, List.set_cons_succ]
          refine wpAnyH_take (i := 3) (v := ?_) rfl (by kernel_rfl) (by kernel_rfl) (by kernel_rfl) (fun _ _ _ h => h) (Or.inl ⟨by rfl, ?_⟩) (by assumption) ?_
          rotate_left
          · (intro w hSw; (try dsimp only at hSw); go_simp; (try with_reducible rfl))
          simp only [Act.put, List.setIfInBounds_toArray, List.set_cons_zero, List.set_cons_succ]
          refine wpAnyH_take (i := 4) (v := ?_) rfl (by kernel_rfl) (by kernel_rfl) (by kernel_rfl) (fun _ _ _ h => h) (Or.inl ⟨by rfl, ?_⟩) (by assumption) ?_
          rotate_left
          · (intro w hSw; (try dsimp only at hSw); go_simp; (try with_reducible rfl))
          simp only [Act.put, List.setIfInBounds_toArray, List.set_cons_zero, List.set_cons_succ]
          refine wpAnyH_take (i := 5) (v := ?_) rfl (by kernel_rfl) (by kernel_rfl) (by kernel_rfl) (fun _ _ _ h => h) (Or.inl ⟨by rfl, ?_⟩) (by assumption) ?_
          rotate_left
          · (intro w hSw; (try dsimp only at hSw); go_simp; (try with_reducible rfl))
          simp only [Act.put, List.setIfInBounds_toArray, List.set_cons_zero, List.set_cons_succ]
          refine wpAnyH_take (i := 6) (v := ?_) rfl (by kernel_rfl) (by kernel_rfl) (by kernel_rfl) (fun _ _ _ h => h) (Or.inl ⟨by rfl, ?_⟩) (by assumption) ?_
          rotate_left
          · (intro w hSw; (try dsimp only at hSw); go_simp; (try with_reducible rfl))
          simp only [Act.put, List.setIfInBounds_toArray, List.set_cons_zero, List.set_cons_succ]
          refine wpAnyH_take (i := 7) (v := ?_) rfl (by kernel_rfl) (by kernel_rfl) (by kernel_rfl) (fun _ _ _ h => h) (Or.inl ⟨by rfl, ?_⟩) (by assumption) ?_
          rotate_left
          · (intro w hSw; (try dsimp only at hSw); go_simp; (try with_reducible rfl))
          simp only [Act.put, List.setIfInBounds_toArray, List.set_cons_zero, List.set_cons_succ]
          refine wpAnyH_take (i := 8) (v := ?_) rfl (by kernel_rfl) (by kernel_rfl) (by kernel_rfl) (fun _ _ _ h => h) (Or.inl ⟨by rfl, ?_⟩) (by assumption) ?_
          rotate_left
          · (intro w hSw; (try dsimp only at hSw); go_simp; (try with_reducible rfl))
          simp only [Act.put, List.setIfInBounds_toArray, List.set_cons_zero, List.set_cons_succ]
          refine wpAnyH_take (i := 9) (v := ?_) rfl (by kernel_rfl) (by kernel_rfl) (by kernel_rfl) (fun _ _ _ h => h) (Or.inl ⟨by rfl, ?_⟩) (by assumption) ?_
          rotate_left
          · (intro w hSw; (try dsimp only at hSw); go_simp; (try with_reducible rfl))
          simp only [Act.put, List.setIfInBounds_toArray, List.set_cons_zero, List.set_cons_succ]
          refine wpAnyH_take (i := 10) (v := ?_) rfl (by kernel_rfl) (by kernel_rfl) (by kernel_rfl) (fun _ _ _ h => h) (Or.inl ⟨by rfl, ?_⟩) (by assumption) ?_
          rotate_left
          · (intro w hSw; (try dsimp only at hSw); go_simp; (try with_reducible rfl))
          simp only [Act.put, List.setIfInBounds_toArray, List.set_cons_zero, List.set_cons_succ]
          refine wpAnyH_take (i := 11) (v := ?_) rfl (by kernel_rfl) (by kernel_rfl) (by kernel_rfl) (fun _ _ _ h => h) (Or.inl ⟨by rfl, ?_⟩) (by assumption) ?_
          rotate_left
          · (intro w hSw; (try dsimp only at hSw); go_simp; (try with_reducible rfl))
          simp only [Act.put, List.setIfInBounds_toArray, List.set_cons_zero, List.set_cons_succ]
          refine wpAnyH_take (i := 12) (v := ?_) rfl (by kernel_rfl) (by kernel_rfl) (by kernel_rfl) (fun _ _ _ h => h) (Or.inl ⟨by rfl, ?_⟩) (by assumption) ?_
          rotate_left
          · (intro w hSw; (try dsimp only at hSw); go_simp; (try with_reducible rfl))
          simp only [Act.put, List.setIfInBounds_toArray, List.set_cons_zero, List.set_cons_succ]
          refine wpAnyH_take (i := 13) (v := ?_) rfl (by kernel_rfl) (by kernel_rfl) (by kernel_rfl) (fun _ _ _ h => h) (Or.inl ⟨by rfl, ?_⟩) (by assumption) ?_
          rotate_left
          · (intro w hSw; (try dsimp only at hSw); go_simp; (try with_reducible rfl))
          simp only [Act.put, List.setIfInBounds_toArray, List.set_cons_zero, List.set_cons_succ]
          refine wpAnyH_take (i := 14) (v := ?_) rfl (by kernel_rfl) (by kernel_rfl) (by kernel_rfl) (fun _ _ _ h => h) (Or.inl ⟨by rfl, ?_⟩) (by assumption) ?_
          rotate_left
          · (intro w hSw; (try dsimp only at hSw); go_simp; (try with_reducible rfl))
          simp only [Act.put, List.setIfInBounds_toArray, List.set_cons_zero, List.set_cons_succ]
          refine wpAnyH_take (i := 15) (v := ?_) rfl (by kernel_rfl) (by kernel_rfl) (by kernel_rfl) (fun _ _ _ h => h) (Or.inl ⟨by rfl, ?_⟩) (by assumption) ?_
          rotate_left
          · (intro w hSw; (try dsimp only at hSw); go_simp; (try with_reducible rfl))
          simp only [Act.put, List.setIfInBounds_toArray, List.set_cons_zero, List.set_cons_succ]
          refine wpAnyH_take (i := 16) (v := ?_) rfl (by kernel_rfl) (by kernel_rfl) (by kernel_rfl) (fun _ _ _ h => h) (Or.inl ⟨by rfl, ?_⟩) (by assumption) ?_
          rotate_left
          · (intro w hSw; (try dsimp only at hSw); go_simp; (try with_reducible rfl))
          simp only [Act.put, List.setIfInBounds_toArray, List.set_cons_zero, List.set_cons_succ]
          refine wpAnyH_take (i := 17) (v := ?_) rfl (by kernel_rfl) (by kernel_rfl) (by kernel_rfl) (fun _ _ _ h => h) (Or.inl ⟨by rfl, ?_⟩) (by assumption) ?_
          rotate_left
          · (intro w hSw; (try dsimp only at hSw); go_simp; (try with_reducible rfl))
          simp only [Act.put, List.setIfInBounds_toArray, List.set_cons_zero, List.set_cons_succ]
          refine wpAnyH_take (i := 18) (v := ?_) rfl (by kernel_rfl) (by kernel_rfl) (by kernel_rfl) (fun _ _ _ h => h) (Or.inl ⟨by rfl, ?_⟩) (by assumption) ?_
          rotate_left
          · (intro w hSw; (try dsimp only at hSw); go_simp; (try with_reducible rfl))
          simp only [Act.put, List.setIfInBounds_toArray, List.set_cons_zero, List.set_cons_succ]
          refine wpAnyH_take (i := 19) (v := ?_) rfl (by kernel_rfl) (by kernel_rfl) (by kernel_rfl) (fun _ _ _ h => h) (Or.inl ⟨by rfl, ?_⟩) (by assumption) ?_
          rotate_left
          · (intro w hSw; (try dsimp only at hSw); go_simp; (try with_reducible rfl))
          simp only [Act.put, List.setIfInBounds_toArray, List.set_cons_zero, List.set_cons_succ]
          refine wpAnyH_take (i := 20) (v := ?_) rfl (by kernel_rfl) (by kernel_rfl) (by kernel_rfl) (fun _ _ _ h => h) (Or.inl ⟨by rfl, ?_⟩) (by assumption) ?_
          rotate_left
          · (intro w hSw; (try dsimp only at hSw); go_simp; (try with_reducible rfl))
          simp only [Act.put, List.setIfInBounds_toArray, List.set_cons_zero, List.set_cons_succ]
          refine wpAnyH_take (i := 21) (v := ?_) rfl (by kernel_rfl) (by kernel_rfl) (by kernel_rfl) (fun _ _ _ h => h) (Or.inl ⟨by rfl, ?_⟩) (by assumption) ?_
          rotate_left
          · (intro w hSw; (try dsimp only at hSw); go_simp; (try with_reducible rfl))
          simp only [Act.put, List.setIfInBounds_toArray, List.set_cons_zero, List.set_cons_succ]
          refine wpAnyH_take (i := 22) (v := ?_) rfl (by kernel_rfl) (by kernel_rfl) (by kernel_rfl) (fun _ _ _ h => h) (Or.inl ⟨by rfl, ?_⟩) (by assumption) ?_
          rotate_left
          · (intro w hSw; (try dsimp only at hSw); go_simp; (try with_reducible rfl))
          simp only [Act.put, List.setIfInBounds_toArray, List.set_cons_zero, List.set_cons_succ]
          refine wpAnyH_take (i := 23) (v := ?_) rfl (by kernel_rfl) (by kernel_rfl) (by kernel_rfl) (fun _ _ _ h => h) (Or.inl ⟨by rfl, ?_⟩) (by assumption) ?_
          rotate_left
          · (intro w hSw; (try dsimp only at hSw); go_simp; (try with_reducible rfl))
          simp only [Act.put, List.setIfInBounds_toArray, List.set_cons_zero, List.set_cons_succ]
          refine wpAnyH_take (i := 24) (v := ?_) rfl (by kernel_rfl) (by kernel_rfl) (by kernel_rfl) (fun _ _ _ h => h) (Or.inl ⟨by rfl, ?_⟩) (by assumption) ?_
          rotate_left
          · (intro w hSw; (try dsimp only at hSw); go_simp; (try with_reducible rfl))
          simp only [Act.put, List.setIfInBounds_toArray, List.set_cons_zero, List.set_cons_succ]
          refine wpAnyH_take (i := 25) (v := ?_) rfl (by kernel_rfl) (by kernel_rfl) (by kernel_rfl) (fun _ _ _ h => h) (Or.inl ⟨by rfl, ?_⟩) (by assumption) ?_
          rotate_left
          · (intro w hSw; (try dsimp only at hSw); go_simp; (try with_reducible rfl))
          simp only [Act.put, List.setIfInBounds_toArray, List.set_cons_zero, List.set_cons_succ]
          simp only [List.getElem_toArray, List.getElem_cons_succ, List.getElem_cons_zero]
          refine wpAnyH_done (by kernel_rfl) ?_ _
          dsimp only [atEnd]
          clear hS q1 q2 q4 q7 ew
          generalize wr.drew = W at *
          go_wp2
          go_roundw
          case rel => exact ⟨v + 1, _, by omega, by go_num, HC.out, oz, o2, o3, hwN⟩
          case measure => simp [intOf]; omega
        · obtain rfl : k = v := by omega
          have hC2 := hC.row
          go_wp2
          go_roundw
          case rel => exact ⟨u + 1, z, by omega, by go_num, hC2, hz, ho2, ho3, hw⟩
          case measure => simp [intOf]; omega
    · obtain rfl : k = u := by omega
      have HR := Lib.hid (HMul.out z L hLk hC)
      have hDz := hC.dg
      have HLR := Lib.hid (remP_len HFl.out (z := z) (by rw [hC.len]; exact hLk))
      have hw1 := hw.trans (below_drewn' _ wr 1)
      have HX := Lib.hid (H.out.keep hw1)
      have hz1 := hz.below (below_drewn wr 1)
      have hrm := l03Rest_any (some ⟨gz, 0, none⟩) L L z A n c f p (wr.drewN 1) hz1.reads (hr.keep hw1) hDz HFl.out.dg hp (by omega) (by omega) (by omega) (by omega) hn1
      have hmin : min (n - 1) L ≤ 7 := by omega
      have HLK := Lib.hid (show ∀ L : Nat, L = k → p ^ L ≤ 1000000 from fun L e => by subst e; have := HFl.out.q64; omega)
      have x0 := (H.out.keep hw).c0
      have x2 := (H.out.keep hw).c2
      clear hz1 hC ho2 ho3 hz hDz
      go_wp2
      clear x0 x2
      go_region_held_law (fun w' => w'.cell? ⟨g, 0, none⟩ = some (.int .i64 p) ∧ w'.cell? ⟨g, 2, none⟩ = some (.slice A n c))
        (first | exact ⟨HX.out.c0, HX.out.c2⟩ | exact ⟨HX5.out.c0, HX5.out.c2⟩)
        ((first
          | (go_at_call 167; refine hrm.mono ?_; rintro e w5 ⟨A5, c5, rfl, ho5, hb5, hD5⟩; have HX5 := Lib.hid (HX.out.keep hb5); have hw5 := hw1.trans (hb5.mono hw1.size))
          | (go_at_call 168; refine (l03Number_any A5 (min (n - 1) L) c5 _ p _ ho5.reads hD5 hp (by omega) (HLK.out _ HLR.out) (by omega)).mono ?_; rintro e w6 ⟨rfl, rfl⟩)))
      all_goals
        go_wp2
        go_ret
        exact ⟨by rw [HR.out]; rfl, hw5⟩
end Go.Proofs.YtdkbcjdimhgmnaaGreat
