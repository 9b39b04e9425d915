/- The law FnTransversals: for every input it returns true. No condition beyond those stated. -/
import Derived.Test.YtcnjlkabdfcjdaaZAZ
import Derived.Test.YtcnjlkabdfcjdaaZBP
import Derived.Test.YtcnjlkabdfcjdaaZBC
import Derived.Test.YtcnjlkabdfcjdaaZBQ
import Derived.Test.YtcnjlkabdfcjdaaZBG
import Derived.Test.YtcnjlkabdfcjdaaZBL
set_option linter.unusedVariables false
set_option linter.unusedSimpArgs false
namespace Go.Proofs.Ytcnjlkabdfcjdaa
open Go.RowKit

theorem perm_ok {p : List Int} (h : PermOk p) : Perm p := h.2
theorem rows_few {zss : List (List Int)} {n : Nat} (hl : zss.length = n) (hn : n ≤ 10) (h : ∀ z ∈ zss, z.length ≤ 10) : cells zss ≤ 1099511627776 := by
  have := cells_under h
  omega
theorem trK_zero {a : List (List Int)} {lim b : Int} (h : trK a lim b = 0) : Square a ∧ inB b 1 20000 = true ∧ inB lim 1 100 = true ∧ (trR a lim.toNat b.toNat).spent = false := by
  unfold trK at h
  split at h
  · rename_i h1
    split at h
    · rename_i h2
      split at h
      · rename_i h3
        split at h
        · cases h
        · rename_i h4
          exact ⟨tB_true.1 h1, h2, h3, by simpa using h4⟩
      · cases h
    · cases h
  · cases h
set_option maxRecDepth 100000 in
set_option maxHeartbeats 2000000 in
theorem law_Transversals_ok (A0 : Option Addr) (n0 c0 : Nat) (bs : List Int) (A1 : Option Addr) (n1 c1 : Nat) (ys : List Int) (w : World) (ha : RS EByte w A0 n0 bs) (hn0 : n0 ≤ 1048576) (hb : RS EByte w A1 n1 ys) (hn1 : n1 ≤ 1048576) :
    Calls Try.prog 3 #[.slice A0 n0 c0, .slice A1 n1 c1] w fun e w' => e = .returned (.bool true) ∧ Below w.heap.size w w' := by
  go_enter Try.func3, Try.ntmps3
  go_wp2_with fail
  refine (b10Long_no A0 n0 c0 _ hn0).mono ?_
  rintro e w' ⟨rfl, rfl⟩
  go_wp2_with fail
  refine (b10Long_no A1 n1 c1 _ hn1).mono ?_
  rintro e w' ⟨rfl, rfl⟩
  go_wp2_with fail
  refine (drawTransversals_any A0 n0 c0 bs w ha (by omega)).mono ?_
  rintro e w1 ⟨X, n, xc, a, lim, b, rfl, hX, hn, hrl, hlim, hbi, hb1⟩
  have hal := hX.len
  have hcl := rows_few hal hn hrl
  go_wp2_with fail
  refine (transversalsOf_any X n xc a lim b w1 hX (by omega) hcl).mono ?_
  rintro e w2 ⟨hb2, FA, fn, fk, vs, rfl, hol⟩
  have hw2 := hb1.trans (hb2.mono hb1.size)
  have hX2 := hX.keep hb2
  have hfl := hol.slen
  by_cases h0 : trK a lim b = 0
  · obtain ⟨hq, -, h3, h4⟩ := trK_zero h0
    have hll := inB_true h3
    obtain ⟨l, rfl⟩ : ∃ l' : Nat, lim = (l' : Int) := ⟨lim.toNat, by omega⟩
    rw [Int.toNat_natCast] at h4
    have hF := found_ok hq (by omega) h4
    have hsp := spec_TransversalsOf X n xc a (l : Int) b w2 hX2 (by omega) hcl
    have htf : trF a (l : Int) b = (trR a l b.toNat).found := by rw [trF, if_pos h0]; rfl
    unfold RetTr at hsp
    rw [htf] at hol hfl hsp
    rw [h0] at hsp ⊢
    generalize (trR a l b.toNat).found = L at *
    subst hfl
    have hlenL := hF.len
    clear h0 h3 h4 htf
    go_wp2_with fail
    refine hsp.mono ?_
    rintro e w3 ⟨hb3, FB, gn, gk, us, rfl, hoB⟩
    have hgl := hoB.slen
    subst hgl
    have hw3 := hw2.trans (hb3.mono hw2.size)
    have hX3 := hX2.keep hb3
    have hol3 : RR w3 FA L.length L := (OR.reads ⟨_, hol⟩).keep hb3
    clear hsp hoB hol hX2 hX
    have HS := Lib.hid (fun (k : Nat) (hk : k < L.length) => show tB (Square a ∧ TransOk a (row L k)) = true ∧ (row L k).length = n from by
      have h := hF.trans k hk
      exact ⟨tB_yes ⟨hq, h⟩, by rw [h.1, hal]⟩)
    have HQ := Lib.hid (fun (k : Nat) (hk : k < L.length) (h0 : 0 < k) => show cmpL (row L (k - 1)) (row L k) = -1 from by
      have h1 := hF.up (k - 1) (by omega)
      rwa [show k - 1 + 1 = k from by omega] at h1)
    have HR := Lib.hid hF.rest
    have HAL := Lib.hid hal
    have HSQ := Lib.hid hq
    have HCL := Lib.hid hcl
    have hlb : L.length ≤ 100 := by omega
    have hnlb : ¬ (L.length : Int) > l := by omega
    clear hF hal hq hcl hrl
    go_wp2
    go_loopw [12] (fun i wr => ∃ k : Nat, k ≤ L.length ∧ i = .int .i64 k ∧ Below w3.heap.size w3 wr) (fun i _ => L.length - (intOf i).toNat)
    case atStart => exact ⟨0, Nat.zero_le _, rfl, Below.refl _ _⟩
    case round =>
      obtain ⟨k, hkl, rfl, hbw⟩ := hrel
      have hri := hol3.keep hbw
      have hX4 := hX3.keep hbw
      have hwr := hw3.trans (hbw.mono hw3.size)
      by_cases hlt : k < L.length
      · obtain ⟨t1, t3⟩ := HS.out k hlt
        obtain ⟨ad, B1, q1, r1, hLA, hca, hq1, hr1, hri1⟩ := hri.get hlt
        obtain rfl : n = q1 := by rw [← hri1.len]; exact t3.symm
        have q2 := cell_bel hca
        have ki : ∀ P : Bel wr, Calls Try.prog 11 #[.slice X n xc, .slice B1 n r1] P.w _ := fun P => (by
          have := IsTransversal_any X n xc a B1 n r1 (row L k) P.w (hX4.keep P.h) (hri1.keep P.h) (by omega) HCL.out (by omega)
          rw [t1] at this
          exact this)
        have sk : IntKind.i64.wrap ((k : Int) - 1) = (k : Int) - 1 := IntWalk.i64_in _ (by omega)
        by_cases hk0 : 0 < k
        · have hq := HQ.out k hlt hk0
          obtain ⟨ad', B2, l2, r2, hLA', hca', hl2, hr2, hri2⟩ := hri.get (k := k - 1) (by omega)
          rw [hLA] at hLA'
          cases hLA'
          subst hLA
          have q3 := cell_bel hca'
          have kc : ∀ P : Bel wr, Calls Try.prog 12 #[.slice B2 l2 r2, .slice B1 n r1] P.w (fun e w' => e = .returned (.int .i64 (-1)) ∧ Below P.w.heap.size P.w w') := fun P => (by
            have := compareListsT_any B2 B1 l2 n r2 r1 _ _ P.w (hri2.keep P.h) (hri1.keep P.h) (by omega) (by omega)
            rw [hq] at this
            exact this.mono fun _ _ h => ⟨h.1, h.2 ▸ Below.refl _ _⟩)
          have e0 : 0 ≤ (k : Int) - 1 := by omega
          have e1 : (k : Int) - 1 < L.length := by omega
          have e2 : ((k : Int) - 1).toNat = k - 1 := by omega
          have e3 : decide ((k : Int) > 0) = true := by simp; omega
          have HBW := Lib.hid hbw
          clear hbw hri hca hca' hq
          go_wp2
          refine wp_region_bel (by kernel_rfl) (by kernel_rfl) ?_
          repeat (first | go_big_quiet_step ((first | (go_at_call 11; with_reducible exact Calls.bel (ki _)) | (go_at_call 12; with_reducible exact Calls.bel (kc _)))) | quiet_step ((first | (go_at_call 11; with_reducible exact Calls.bel (ki _)) | (go_at_call 12; with_reducible exact Calls.bel (kc _)))))
          refine wpQuiet_nil ?_
          rintro _ ⟨⟨w7, hb7⟩, rfl⟩
          have hw7 := HBW.out.trans (hb7.mono HBW.out.size)
          clear hb7 q2 q3 e0 e1 e2 e3 sk ki kc
          go_wp2
          go_roundw
          case rel => exact ⟨k + 1, by omega, by go_num, hw7⟩
          case measure => simp [intOf]; omega
        · have e3 : decide ((k : Int) > 0) = false := by simp; omega
          subst hLA
          have HBW := Lib.hid hbw
          clear hbw hri hca
          go_wp2
          refine wp_region_bel (by kernel_rfl) (by kernel_rfl) ?_
          repeat (first | go_big_quiet_step ((first | (go_at_call 11; with_reducible exact Calls.bel (ki _)))) | quiet_step ((first | (go_at_call 11; with_reducible exact Calls.bel (ki _)))))
          refine wpQuiet_nil ?_
          rintro _ ⟨⟨w7, hb7⟩, rfl⟩
          have hw7 := HBW.out.trans (hb7.mono HBW.out.size)
          clear hb7 q2 e3 sk ki
          go_wp2
          go_roundw
          case rel => exact ⟨k + 1, by omega, by go_num, hw7⟩
          case measure => simp [intOf]; omega
      · clear HQ HS
        have hpm := b10Perm_any A1 n1 c1 n ys wr (EBytes.keep hb hwr) (by omega) (by omega)
        go_wp2_with fail
        refine hpm.mono ?_
        rintro e w8 ⟨P, cP, p, rfl, hop, hlp, hpp, hb8⟩
        have hw8 := hbw.trans (hb8.mono hbw.size)
        have hwr8 := hwr.trans (hb8.mono hwr.size)
        have hit := IsTransversal_any X n xc a P n cP p w8 (hX3.keep hw8) hop.reads (by omega) HCL.out (by omega)
        clear hpm hb8
        cases hu : tB (Square a ∧ TransOk a p) with
        | false =>
          rw [hu] at hit
          clear hu HR
          go_wp2_with fail
          refine hit.mono ?_
          rintro e w9 ⟨rfl, hb9⟩
          have hwr9 := hwr8.trans (hb9.mono hwr8.size)
          go_wp2
          go_ret
          exact ⟨rfl, hwr9⟩
        | true =>
          rw [hu] at hit
          have hto := (tB_true.1 hu).2
          clear hu
          go_wp2_with fail
          refine hit.mono ?_
          rintro e w9 ⟨rfl, hb9⟩
          have hw9 := hw8.trans (hb9.mono hw8.size)
          have hwr9 := hwr8.trans (hb9.mono hwr8.size)
          have hop9 := hop.below hb9
          clear hit hb9
          have hix := b10Index_any FA L.length fk L P n cP p w9 (hol3.keep hw9) hop9.reads (by omega) (by omega)
          go_wp2_with fail
          refine hix.mono ?_
          rintro e w10 ⟨k2, rfl, hd10, hcase⟩
          have hb10 := hd10.below
          have hw10 := hw9.trans (hb10.mono hw9.size)
          have hwr10 := hwr9.trans (hb10.mono hwr9.size)
          have hop10 := hop9.below hb10
          clear hix hd10 hb10 hop9 hop
          rcases hcase with ⟨h1, h2⟩ | ⟨h1, h2⟩
          · clear HR h2
            go_wp2
            go_ret
            exact ⟨rfl, hwr10⟩
          · obtain ⟨r1, r2⟩ := HR.out p hto h2
            subst h1
            clear HR h2 hto
            obtain ⟨lk, rfl⟩ : ∃ lk, l = lk + 1 := ⟨l - 1, by omega⟩
            rw [Nat.add_sub_cancel] at r2
            have hol10 := hol3.keep hw10
            rw [r1] at hol10 hlb ⊢
            obtain ⟨ad, B2, l2, r2', hLA, hca, hl2, hr2, hri2⟩ := hol10.get (k := lk) (by omega)
            have hcm := compareListsT_any B2 P l2 n r2' cP _ _ w10 hri2 hop10.reads (by omega) (by omega)
            rw [r2] at hcm
            have sk : IntKind.i64.wrap (((lk + 1 : Nat) : Int) - 1) = (lk : Int) := by rw [IntKind.wrap_i64]; omega
            have e0 : 0 ≤ (lk : Int) := by omega
            subst hLA
            clear HCL HAL HSQ hol10 hri2 hop10 hol3 hlenL hll hX3 r2 hnlb
            go_wp2_with fail
            refine hcm.mono ?_
            rintro e w11 ⟨rfl, rfl⟩
            go_wp2
            go_ret
            exact ⟨rfl, hwr10⟩
  · have hz : trF a lim b = [] := by rw [trF, if_neg h0]
    rw [hz] at hfl
    obtain rfl : fn = 0 := by simpa using hfl.symm
    have t0 : (trK a lim b != 0) = true := by simp [h0]
    generalize trK a lim b = K at *
    clear hol h0 hz hfl
    go_wp2
    go_ret
    exact ⟨rfl, hw2⟩
set_option maxRecDepth 100000 in
theorem law_Transversals (A : Option Addr) (n c : Nat) (zs : List Int) (B : Option Addr) (m d : Nat) (ys : List Int) (w : World) (ha : RS EByte w A n zs) (hn : n ≤ c) (hc : c ≤ 9223372036854775807) (hb : RS EByte w B m ys) (hm : m ≤ d) (hd : d ≤ 9223372036854775807) :
    Calls Try.prog 3 #[.slice A n c, .slice B m d] w fun e w' => e = .returned (.bool true) ∧ Below w.heap.size w w' := by
  by_cases h1 : n ≤ 1048576
  · by_cases h2 : m ≤ 1048576
    · exact law_Transversals_ok A n c zs B m d ys w ha h1 hb h2
    · go_enter Try.func3, Try.ntmps3
      go_wp2_with fail
      refine (b10Long_no A n c _ h1).mono ?_
      rintro e w' ⟨rfl, rfl⟩
      go_wp2_with fail
      refine (b10Long_yes B m d _ (by omega)).mono ?_
      rintro e w' ⟨rfl, rfl⟩
      go_wp2
      go_ret
      exact ⟨rfl, Below.refl _ _⟩
  · go_enter Try.func3, Try.ntmps3
    go_wp2_with fail
    refine (b10Long_yes A n c _ (by omega)).mono ?_
    rintro e w' ⟨rfl, rfl⟩
    go_wp2
    go_ret
    exact ⟨rfl, Below.refl _ _⟩
end Go.Proofs.Ytcnjlkabdfcjdaa
/- The law FnMates: for every input it returns true. No condition beyond those stated. -/
namespace Go.Proofs.Ytcnjlkabdfcjdaa
open Go.RowKit

theorem sq_cells2 {a : List (List Int)} (h : Square a) : cells a ≤ 1099511627776 := by
  have := cells_under (l := a) (k := a.length) (fun r hr => by
    obtain ⟨i, hi, rfl⟩ := List.getElem_of_mem hr
    have := (h.2.2.1 i hi).1
    rw [row_get hi] at this
    omega)
  have h2 : a.length * a.length ≤ 10 * 10 := Nat.mul_le_mul h.2.1 h.2.1
  omega
set_option maxRecDepth 100000 in
set_option maxHeartbeats 2000000 in
theorem Orthogonal_yes (A : Option Addr) (n c : Nat) (a : List (List Int)) (B : Option Addr) (d : Nat) (b : List (List Int)) (w : World) (ha : RR w A n a) (hb : RR w B n b) (hqa : Square a) (hqb : Square b) (hP : PairOk n a b) :
    Calls Try.prog 26 #[.slice A n c, .slice B n d] w (RetB w true) := by
  have hn : n ≤ 10 := by have := ha.len; have := hqa.2.1; omega
  have h1 := validSquare_any A n c a w ha (by omega) (sq_cells2 hqa)
  rw [tB_yes hqa] at h1
  have h2 := fun w2 (h : RR w2 B n b) => validSquare_any B n d b w2 h (by omega) (sq_cells2 hqb)
  rw [tB_yes hqb] at h2
  have h3 := fun w2 (h : RR w2 A n a) (k : RR w2 B n b) => orthogonal_yes A n c a B d b w2 h k hqa hqb hP
  clear hqa hqb hP
  go_enter Try.func26, Try.ntmps26
  go_wp2_with (fail)
  refine h1.mono ?_
  rintro e w1 ⟨rfl, hb1⟩
  go_wp2_with (fail)
  refine (h2 w1 (hb.keep hb1)).mono ?_
  rintro e w2 ⟨rfl, hb2⟩
  have hb12 := hb1.trans (hb2.mono hb1.size)
  go_wp2_with (fail)
  refine (h3 w2 (ha.keep hb12) (hb.keep hb12)).mono ?_
  rintro e w3 ⟨rfl, hb3⟩
  have hb13 := hb12.trans (hb3.mono hb12.size)
  go_wp2
  go_ret
  exact ⟨rfl, hb13⟩
/-- the transversals of a mate, symbol by symbol -/
def coverP (b : List (List Int)) (n k : Nat) : List (List Int) := (List.range k).map fun (s : Nat) => colsP b (s : Int) n
theorem coverP_step (b : List (List Int)) (n k : Nat) : coverP b n (k + 1) = coverP b n k ++ [colsP b (k : Int) n] := by simp [coverP, List.range_succ]
theorem coverP_len (b : List (List Int)) (n k : Nat) : (coverP b n k).length = k := by simp [coverP]
theorem coverP_row {b : List (List Int)} {n k s : Nat} (h : s < k) : row (coverP b n k) s = colsP b (s : Int) n := by
  rw [row_get (by rw [coverP_len]; exact h)]; simp [coverP]
set_option maxRecDepth 100000 in
set_option maxHeartbeats 2000000 in
theorem transversalsOfMate_ok (A : Option Addr) (n c : Nat) (a : List (List Int)) (B : Option Addr) (d : Nat) (b : List (List Int)) (w : World) (ha : RR w A n a) (hb : RR w B n b) (hqa : Square a) (hqb : Square b) (hP : PairOk n a b) :
    Calls Try.prog 25 #[.slice A n c, .slice B n d] w fun e w' => ∃ R rc, e = .returned (.tuple #[.slice R n rc, .int .i64 0]) ∧ OR w' w.heap.size 30 2 R n rc (coverP b n n) ∧ Below w.heap.size w w' := by
  have hn : n ≤ 10 := by have := ha.len; have := hqa.2.1; omega
  have h1 := validSquare_any A n c a w ha (by omega) (sq_cells2 hqa)
  rw [tB_yes hqa] at h1
  have h2 := fun w2 (h : RR w2 B n b) => validSquare_any B n d b w2 h (by omega) (sq_cells2 hqb)
  rw [tB_yes hqb] at h2
  have h3 := fun w2 (h : RR w2 A n a) (k : RR w2 B n b) => orthogonal_yes A n c a B d b w2 h k hqa hqb hP
  have h4 := fun w2 (h : RR w2 B n b) (k : Nat) (hk : k < n) => symbolColumns_any B n d k b w2 h hqb hk
  clear hqa hqb hP
  go_enter Try.func25, Try.ntmps25
  go_wp2_with (fail)
  refine h1.mono ?_
  rintro e w1 ⟨rfl, hb1⟩
  go_wp2_with (fail)
  refine (h2 w1 (hb.keep hb1)).mono ?_
  rintro e w2 ⟨rfl, hb2⟩
  have hb12 := hb1.trans (hb2.mono hb1.size)
  go_wp2_with (fail)
  refine (h3 w2 (ha.keep hb12) (hb.keep hb12)).mono ?_
  rintro e w3 ⟨rfl, hb3⟩
  have hb13 := hb12.trans (hb3.mono hb12.size)
  clear h1 h2 h3 hb1 hb2 hb3 hb12
  go_wp2
  go_loopw [6, 7, 8, 9, 24] (fun l _ _ _ i wr => ∃ (k : Nat) (R : Option Addr) (rc : Nat), k ≤ n ∧ i = .int .i64 k ∧ l = .slice R k rc ∧ OR wr w.heap.size 30 2 R k rc (coverP b n k) ∧ Below w.heap.size w wr) (fun _ _ _ _ i _ => n - (intOf i).toNat)
  case atStart => exact ⟨0, none, 0, Nat.zero_le _, rfl, rfl, OR.nil_ (e2 := 30) (e1 := 2) _ _ (by decide), hb13⟩
  case round =>
    clear hb13
    obtain ⟨k, R, rc, hk, rfl, rfl, ho, hbw⟩ := hrel
    by_cases hlt : k < n
    · have hsc := h4 wr (hb.keep hbw) k hlt
      go_wp2_with (fail)
      refine hsc.mono ?_
      rintro e w4 ⟨LA, lc, rfl, hol, hb4⟩
      obtain ⟨vs, hov⟩ := ho
      have hap := hov.apart_new (v := (LA, n, lc)) (fun b hb => (hol.os.lt hb).1)
      have hov4 := Lib.hid (hov.below hb4)
      have hol4 := Lib.hid (hol.more hbw.size)
      have hb5 := Lib.hid (hbw.trans (hb4.mono hbw.size))
      have hbs := hb5.out.size
      have HST := Lib.hid (coverP_step b n k)
      clear hov hol hb4 hsc hbw
      go_wp2_with (at_builtin; refine app_row _ rfl (.tmp 33) (.tmp 35) rfl w.heap.size R k rc vs (coverP b n k) rfl hov4.out (LA, n, lc) (colsP b (k : Int) n) hol4.out hap _ rfl rfl (by omega) hbs ?_; intro A3 c3 w3 ho3 hg3 hn3; have hb6 := Lib.hid (below_own hb5.out hg3 hbs (fun b hb => (hov4.out.os.lt hb).1)); rw [← HST.out] at ho3)
      go_roundw
      case rel => exact ⟨k + 1, A3, c3, by omega, by go_num, rfl, ⟨_, ho3⟩, hb6.out⟩
      case measure => simp [intOf]; omega
    · obtain rfl : k = n := by omega
      go_wp2
      go_ret2
      exact ⟨R, rc, rfl, ho, hbw⟩
theorem trK_sq {a : List (List Int)} (h : Square a) : (trK a 1 20000 = 0 ∧ (trR a 1 20000).spent = false ∧ trF a 1 20000 = (trR a 1 20000).found) ∨ trK a 1 20000 = 5 := by
  have e : trK a 1 20000 = if (trR a 1 20000).spent then 5 else 0 := by rw [trK, tB_yes h]; rfl
  cases hs : (trR a 1 20000).spent with
  | true => right; rw [e, hs]; rfl
  | false =>
    left
    have e0 : trK a 1 20000 = 0 := by rw [e, hs]; rfl
    exact ⟨e0, rfl, by rw [trF, if_pos e0]; rfl⟩
theorem trF_le {a : List (List Int)} : trK a 1 20000 ≠ 0 ∨ (trF a 1 20000).length ≤ 1 := by
  by_cases h : trK a 1 20000 = 0
  · right
    obtain ⟨hq, -, -, hs⟩ := trK_zero h
    have := (found_ok hq (lim := 1) (by decide) hs).len
    rw [trF, if_pos h]
    exact this
  · exact .inl h
set_option maxRecDepth 100000 in
set_option maxHeartbeats 4000000 in
theorem law_Mates_ok (A0 : Option Addr) (n0 c0 : Nat) (bs : List Int) (w : World) (ha : RS EByte w A0 n0 bs) (hn0 : n0 ≤ 1048576) :
    Calls Try.prog 5 #[.slice A0 n0 c0] w fun e w' => e = .returned (.bool true) ∧ Below w.heap.size w w' := by
  go_enter Try.func5, Try.ntmps5
  go_wp2_with fail
  refine (b10Long_no A0 n0 c0 _ hn0).mono ?_
  rintro e w' ⟨rfl, rfl⟩
  go_wp2_with fail
  refine (drawMateOf_any A0 n0 c0 bs w ha (by omega)).mono ?_
  rintro e w1 ⟨X, n, xc, a, b, rfl, hX, hn, hrl, hbi, hb1⟩
  have hal := hX.len
  have hcl := rows_few hal hn hrl
  go_wp2_with fail
  refine (mateOf_any X n xc a b w1 hX (by omega) hcl).mono ?_
  rintro e w2 ⟨B, m, bc, k, rfl, hb2, hcase⟩
  have hw2 := hb1.trans (hb2.mono hb1.size)
  have hX2 := hX.keep hb2
  have htr := transversalsOf_any X n xc a 1 20000 w2 hX2 (by omega) hcl
  clear hb1 hX
  rcases hcase with ⟨rfl, hq, rfl, P, hoP, hD⟩ | ⟨hk, rfl⟩
  · have hn1 : 1 ≤ m := by have := hq.1; omega
    have hPair := mate_pairs hq hal hD hn1 hn
    have hqP := mate_square hD hn1 hn
    have hcov := fun w4 (h : RR w4 X m a) (h2 : RR w4 B m P) => transversalsOfMate_ok X m xc a B bc P w4 h h2 hq hqP hPair
    have hort := fun w4 (h : RR w4 X m a) (h2 : RR w4 B m P) => Orthogonal_yes X m xc a B bc P w4 h h2 hq hqP hPair
    have HT := Lib.hid (fun k (hk : k < m) => mate_trans hq hal hD hn1 hn hk)
    have HQ := Lib.hid hq
    have htk := trK_sq hq
    have hfs := fun (h : (trR a 1 20000).spent = false) => found_some hq h (mate_trans hq hal hD hn1 hn (k := 0) (by omega))
    clear hPair hqP hD hq
    go_wp2_with fail
    refine htr.mono ?_
    rintro e w3 ⟨hb3, FA, fn, fk, vs, rfl, hol⟩
    have hw3 := hw2.trans (hb3.mono hw2.size)
    have hfl := hol.slen
    have hX3 := hX2.keep hb3
    have hoP := hoP.below hb3
    have htwo : (trK a 1 20000 = 0 ∧ fn = 1) ∨ trK a 1 20000 = 5 := by
      rcases htk with ⟨h1, h2, h3⟩ | h1
      · left
        refine ⟨h1, ?_⟩
        rw [← hfl, h3]
        exact hfs h2
      · exact .inr h1
    clear hol htk hfs hfl htr hb3 hX2
    generalize trK a 1 20000 = K at *
    go_wp2_with fail
    refine (hcov w3 hX3 hoP.reads).mono ?_
    rintro e w4 ⟨R, rc, rfl, hoR, hb4⟩
    have hw4 := hw3.trans (hb4.mono hw3.size)
    have hX4 := hX3.keep hb4
    have hoP := hoP.below hb4
    clear hcov hb4
    go_wp2_with fail
    refine (hort w4 hX4 hoP.reads).mono ?_
    rintro e w5 ⟨rfl, hb5⟩
    have hw5 := hw4.trans (hb5.mono hw4.size)
    have hX5 := hX4.keep hb5
    have hrR := hoR.reads.keep hb5
    clear hort hb5 hoR
    rcases htwo with ⟨rfl, rfl⟩ | rfl
    all_goals
      go_wp2
      go_loopw [11] (fun i wr => ∃ k : Nat, k ≤ m ∧ i = .int .i64 k ∧ Below w5.heap.size w5 wr) (fun i _ => m - (intOf i).toNat)
      case atStart => exact ⟨0, Nat.zero_le _, rfl, Below.refl _ _⟩
      case round =>
        obtain ⟨k, hk, rfl, hbw⟩ := hrel
        have hw6 := hw5.trans (hbw.mono hw5.size)
        by_cases hlt : k < m
        · obtain ⟨ad, B1, q1, r1, rfl, hca, hq1, hr1, hri1⟩ := (hrR.keep hbw).get hlt
          have hit := IsTransversal_any X m xc a B1 q1 r1 (row (coverP P m m) k) wr (hX5.keep hbw) hri1 (by omega) hcl (by
            have := hri1.len
            rw [coverP_row hlt, colsP_len] at this
            omega)
          rw [tB_yes ⟨HQ.out, by rw [coverP_row hlt]; exact HT.out k hlt⟩] at hit
          clear hri1
          go_wp2_with fail
          refine hit.mono ?_
          rintro e w7 ⟨rfl, hb7⟩
          go_wp2
          go_roundw
          case rel => exact ⟨k + 1, by omega, by go_num, hbw.trans (hb7.mono hbw.size)⟩
          case measure => simp [intOf]; omega
        · go_wp2
          go_ret
          exact ⟨rfl, hw6⟩
  · by_cases h3 : k = 3
    · subst h3
      have hle := trF_le (a := a)
      clear hk
      go_wp2_with fail
      refine htr.mono ?_
      rintro e w3 ⟨hb3, FA, fn, fk, vs, rfl, hol⟩
      have hw3 := hw2.trans (hb3.mono hw2.size)
      have hfl := hol.slen
      rw [hfl] at hle
      clear hol htr hfl hb3
      generalize trK a 1 20000 = K at *
      by_cases hK : K = 0
      · subst hK
        have hf1 : fn ≤ 1 := hle.resolve_left (by decide)
        have hf2 : (fn : Int) ≤ 1 := by omega
        clear hle
        go_wp2
        go_ret
        exact ⟨rfl, hw3⟩
      · have hKb : (K != 0) = true := by simp [hK]
        clear hle hK
        go_wp2
        go_ret
        exact ⟨rfl, hw3⟩
    · have hk3 : k = 1 ∨ k = 2 ∨ k = 5 := by omega
      clear htr hk h3
      rcases hk3 with rfl | rfl | rfl
      all_goals
        go_wp2
        go_ret
        exact ⟨rfl, hw2⟩
set_option maxRecDepth 100000 in
theorem law_Mates (A : Option Addr) (n c : Nat) (zs : List Int) (w : World) (ha : RS EByte w A n zs) (hn : n ≤ c) (hc : c ≤ 9223372036854775807) :
    Calls Try.prog 5 #[.slice A n c] w fun e w' => e = .returned (.bool true) ∧ Below w.heap.size w w' := by
  by_cases h1 : n ≤ 1048576
  · exact law_Mates_ok A n c zs w ha h1
  · go_enter Try.func5, Try.ntmps5
    go_wp2_with fail
    refine (b10Long_yes A n c _ (by omega)).mono ?_
    rintro e w' ⟨rfl, rfl⟩
    go_wp2
    go_ret
    exact ⟨rfl, Below.refl _ _⟩
end Go.Proofs.Ytcnjlkabdfcjdaa
