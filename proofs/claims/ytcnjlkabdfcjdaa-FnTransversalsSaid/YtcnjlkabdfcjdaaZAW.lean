/- The law FnTransversals: for every input it returns true. No condition beyond those stated. -/
import Derived.Test.YtcnjlkabdfcjdaaZAO
import Derived.Test.YtcnjlkabdfcjdaaZAU
import Derived.Test.YtcnjlkabdfcjdaaZAQ
import Derived.Test.YtcnjlkabdfcjdaaZAV
set_option linter.unusedVariables false
set_option linter.unusedSimpArgs false
namespace Go.Proofs.Ytcnjlkabdfcjdaa
open Go.RowKit

theorem perm_ok {p : List Int} (h : PermOk p) : Perm p := h.2
theorem rows_few {zss : List (List Int)} {n : Nat} (hl : zss.length = n) (hn : n ≤ 10) (h : ∀ z ∈ zss, z.length ≤ 10) : cells zss ≤ 1099511627776 := by
  have := cells_under h
  omega
theorem trK_zero {a : List (List Int)} {lim b : Int} (h : trK a lim b = 0) : Square a ∧ inB b 1 20000 = true ∧ inB lim 1 100 = true ∧ (trR a lim.toNat b.toNat).spent = false := by
  unfold trK at h
  split at h
  · rename_i h1
    split at h
    · rename_i h2
      split at h
      · rename_i h3
        split at h
        · cases h
        · rename_i h4
          exact ⟨tB_true.1 h1, h2, h3, by simpa using h4⟩
      · cases h
    · cases h
  · cases h
set_option maxRecDepth 100000 in
set_option maxHeartbeats 2000000 in
theorem law_Transversals_ok (A0 : Option Addr) (n0 c0 : Nat) (bs : List Int) (A1 : Option Addr) (n1 c1 : Nat) (ys : List Int) (w : World) (ha : RS EByte w A0 n0 bs) (hn0 : n0 ≤ 1048576) (hb : RS EByte w A1 n1 ys) (hn1 : n1 ≤ 1048576) :
    Calls Try.prog 3 #[.slice A0 n0 c0, .slice A1 n1 c1] w fun e w' => e = .returned (.bool true) ∧ Below w.heap.size w w' := by
  go_enter Try.func3, Try.ntmps3
  go_wp2_with fail
  refine (b10Long_no A0 n0 c0 _ hn0).mono ?_
  rintro e w' ⟨rfl, rfl⟩
  go_wp2_with fail
  refine (b10Long_no A1 n1 c1 _ hn1).mono ?_
  rintro e w' ⟨rfl, rfl⟩
  go_wp2_with fail
  refine (drawTransversals_any A0 n0 c0 bs w ha (by omega)).mono ?_
  rintro e w1 ⟨X, n, xc, a, lim, b, rfl, hX, hn, hrl, hlim, hbi, hb1⟩
  have hal := hX.len
  have hcl := rows_few hal hn hrl
  go_wp2_with fail
  refine (transversalsOf_any X n xc a lim b w1 hX (by omega) hcl).mono ?_
  rintro e w2 ⟨hb2, FA, fn, fk, vs, rfl, hol⟩
  have hw2 := hb1.trans (hb2.mono hb1.size)
  have hX2 := hX.keep hb2
  have hfl := hol.slen
  by_cases h0 : trK a lim b = 0
  · obtain ⟨hq, -, h3, h4⟩ := trK_zero h0
    have hll := inB_true h3
    obtain ⟨l, rfl⟩ : ∃ l' : Nat, lim = (l' : Int) := ⟨lim.toNat, by omega⟩
    rw [Int.toNat_natCast] at h4
    have hF := found_ok hq (by omega) h4
    have hsp := spec_TransversalsOf X n xc a (l : Int) b w2 hX2 (by omega) hcl
    have htf : trF a (l : Int) b = (trR a l b.toNat).found := by rw [trF, if_pos h0]; rfl
    unfold RetTr at hsp
    rw [htf] at hol hfl hsp
    rw [h0] at hsp ⊢
    generalize (trR a l b.toNat).found = L at *
    subst hfl
    have hlenL := hF.len
    clear h0 h3 h4 htf
    go_wp2_with fail
    refine hsp.mono ?_
    rintro e w3 ⟨hb3, FB, gn, gk, us, rfl, hoB⟩
    have hgl := hoB.slen
    subst hgl
    have hw3 := hw2.trans (hb3.mono hw2.size)
    have hX3 := hX2.keep hb3
    have hol3 : RR w3 FA L.length L := (OR.reads ⟨_, hol⟩).keep hb3
    clear hsp hoB hol hX2 hX
    have HS := Lib.hid (fun (k : Nat) (hk : k < L.length) => show tB (Square a ∧ TransOk a (row L k)) = true ∧ (row L k).length = n from by
      have h := hF.trans k hk
      exact ⟨tB_yes ⟨hq, h⟩, by rw [h.1, hal]⟩)
    have HQ := Lib.hid (fun (k : Nat) (hk : k < L.length) (h0 : 0 < k) => show cmpL (row L (k - 1)) (row L k) = -1 from by
      have h1 := hF.up (k - 1) (by omega)
      rwa [show k - 1 + 1 = k from by omega] at h1)
    have HR := Lib.hid hF.rest
    have HAL := Lib.hid hal
    have HSQ := Lib.hid hq
    have HCL := Lib.hid hcl
    have hlb : L.length ≤ 100 := by omega
    have hnlb : ¬ (L.length : Int) > l := by omega
    clear hF hal hq hcl hrl
    go_wp2
    go_loopw [12] (fun i wr => ∃ k : Nat, k ≤ L.length ∧ i = .int .i64 k ∧ Below w3.heap.size w3 wr) (fun i _ => L.length - (intOf i).toNat)
    case atStart => exact ⟨0, Nat.zero_le _, rfl, Below.refl _ _⟩
    case round =>
      obtain ⟨k, hkl, rfl, hbw⟩ := hrel
      have hri := hol3.keep hbw
      have hX4 := hX3.keep hbw
      have hwr := hw3.trans (hbw.mono hw3.size)
      by_cases hlt : k < L.length
      · obtain ⟨t1, t3⟩ := HS.out k hlt
        obtain ⟨ad, B1, q1, r1, hLA, hca, hq1, hr1, hri1⟩ := hri.get hlt
        obtain rfl : n = q1 := by rw [← hri1.len]; exact t3.symm
        have q2 := cell_bel hca
        have ki : ∀ P : Bel wr, Calls Try.prog 11 #[.slice X n xc, .slice B1 n r1] P.w _ := fun P => (by
          have := IsTransversal_any X n xc a B1 n r1 (row L k) P.w (hX4.keep P.h) (hri1.keep P.h) (by omega) HCL.out (by omega)
          rw [t1] at this
          exact this)
        have sk : IntKind.i64.wrap ((k : Int) - 1) = (k : Int) - 1 := IntWalk.i64_in _ (by omega)
        by_cases hk0 : 0 < k
        · have hq := HQ.out k hlt hk0
          obtain ⟨ad', B2, l2, r2, hLA', hca', hl2, hr2, hri2⟩ := hri.get (k := k - 1) (by omega)
          rw [hLA] at hLA'
          cases hLA'
          subst hLA
          have q3 := cell_bel hca'
          have kc : ∀ P : Bel wr, Calls Try.prog 12 #[.slice B2 l2 r2, .slice B1 n r1] P.w (fun e w' => e = .returned (.int .i64 (-1)) ∧ Below P.w.heap.size P.w w') := fun P => (by
            have := compareListsT_any B2 B1 l2 n r2 r1 _ _ P.w (hri2.keep P.h) (hri1.keep P.h) (by omega) (by omega)
            rw [hq] at this
            exact this.mono fun _ _ h => ⟨h.1, h.2 ▸ Below.refl _ _⟩)
          have e0 : 0 ≤ (k : Int) - 1 := by omega
          have e1 : (k : Int) - 1 < L.length := by omega
          have e2 : ((k : Int) - 1).toNat = k - 1 := by omega
          have e3 : decide ((k : Int) > 0) = true := by simp; omega
          have HBW := Lib.hid hbw
          clear hbw hri hca hca' hq
          go_wp2
          refine wp_region_bel (by kernel_rfl) (by kernel_rfl) ?_
          repeat (first | go_big_quiet_step ((first | (go_at_call 11; with_reducible exact Calls.bel (ki _)) | (go_at_call 12; with_reducible exact Calls.bel (kc _)))) | quiet_step ((first | (go_at_call 11; with_reducible exact Calls.bel (ki _)) | (go_at_call 12; with_reducible exact Calls.bel (kc _)))))
          refine wpQuiet_nil ?_
          rintro _ ⟨⟨w7, hb7⟩, rfl⟩
          have hw7 := HBW.out.trans (hb7.mono HBW.out.size)
          clear hb7 q2 q3 e0 e1 e2 e3 sk ki kc
          go_wp2
          go_roundw
          case rel => exact ⟨k + 1, by omega, by go_num, hw7⟩
          case measure => simp [intOf]; omega
        · have e3 : decide ((k : Int) > 0) = false := by simp; omega
          subst hLA
          have HBW := Lib.hid hbw
          clear hbw hri hca
          go_wp2
          refine wp_region_bel (by kernel_rfl) (by kernel_rfl) ?_
          repeat (first | go_big_quiet_step ((first | (go_at_call 11; with_reducible exact Calls.bel (ki _)))) | quiet_step ((first | (go_at_call 11; with_reducible exact Calls.bel (ki _)))))
          refine wpQuiet_nil ?_
          rintro _ ⟨⟨w7, hb7⟩, rfl⟩
          have hw7 := HBW.out.trans (hb7.mono HBW.out.size)
          clear hb7 q2 e3 sk ki
          go_wp2
          go_roundw
          case rel => exact ⟨k + 1, by omega, by go_num, hw7⟩
          case measure => simp [intOf]; omega
      · clear HQ HS
        have hpm := b10Perm_any A1 n1 c1 n ys wr (EBytes.keep hb hwr) (by omega) (by omega)
        go_wp2_with fail
        refine hpm.mono ?_
        rintro e w8 ⟨P, cP, p, rfl, hop, hlp, hpp, hb8⟩
        have hw8 := hbw.trans (hb8.mono hbw.size)
        have hwr8 := hwr.trans (hb8.mono hwr.size)
        have hit := IsTransversal_any X n xc a P n cP p w8 (hX3.keep hw8) hop.reads (by omega) HCL.out (by omega)
        clear hpm hb8
        cases hu : tB (Square a ∧ TransOk a p) with
        | false =>
          rw [hu] at hit
          clear hu HR
          go_wp2_with fail
          refine hit.mono ?_
          rintro e w9 ⟨rfl, hb9⟩
          have hwr9 := hwr8.trans (hb9.mono hwr8.size)
          go_wp2
          go_ret
          exact ⟨rfl, hwr9⟩
        | true =>
          rw [hu] at hit
          have hto := (tB_true.1 hu).2
          clear hu
          go_wp2_with fail
          refine hit.mono ?_
          rintro e w9 ⟨rfl, hb9⟩
          have hw9 := hw8.trans (hb9.mono hw8.size)
          have hwr9 := hwr8.trans (hb9.mono hwr8.size)
          have hop9 := hop.below hb9
          clear hit hb9
          have hix := b10Index_any FA L.length fk L P n cP p w9 (hol3.keep hw9) hop9.reads (by omega) (by omega)
          go_wp2_with fail
          refine hix.mono ?_
          rintro e w10 ⟨k2, rfl, hd10, hcase⟩
          have hb10 := hd10.below
          have hw10 := hw9.trans (hb10.mono hw9.size)
          have hwr10 := hwr9.trans (hb10.mono hwr9.size)
          have hop10 := hop9.below hb10
          clear hix hd10 hb10 hop9 hop
          rcases hcase with ⟨h1, h2⟩ | ⟨h1, h2⟩
          · clear HR h2
            go_wp2
            go_ret
            exact ⟨rfl, hwr10⟩
          · obtain ⟨r1, r2⟩ := HR.out p hto h2
            subst h1
            clear HR h2 hto
            obtain ⟨lk, rfl⟩ : ∃ lk, l = lk + 1 := ⟨l - 1, by omega⟩
            rw [Nat.add_sub_cancel] at r2
            have hol10 := hol3.keep hw10
            rw [r1] at hol10 hlb ⊢
            obtain ⟨ad, B2, l2, r2', hLA, hca, hl2, hr2, hri2⟩ := hol10.get (k := lk) (by omega)
            have hcm := compareListsT_any B2 P l2 n r2' cP _ _ w10 hri2 hop10.reads (by omega) (by omega)
            rw [r2] at hcm
            have sk : IntKind.i64.wrap (((lk + 1 : Nat) : Int) - 1) = (lk : Int) := by rw [IntKind.wrap_i64]; omega
            have e0 : 0 ≤ (lk : Int) := by omega
            subst hLA
            clear HCL HAL HSQ hol10 hri2 hop10 hol3 hlenL hll hX3 r2 hnlb
            go_wp2_with fail
            refine hcm.mono ?_
            rintro e w11 ⟨rfl, rfl⟩
            go_wp2
            go_ret
            exact ⟨rfl, hwr10⟩
  · have hz : trF a lim b = [] := by rw [trF, if_neg h0]
    rw [hz] at hfl
    obtain rfl : fn = 0 := by simpa using hfl.symm
    have t0 : (trK a lim b != 0) = true := by simp [h0]
    generalize trK a lim b = K at *
    clear hol h0 hz hfl
    go_wp2
    go_ret
    exact ⟨rfl, hw2⟩
set_option maxRecDepth 100000 in
theorem law_Transversals (A : Option Addr) (n c : Nat) (zs : List Int) (B : Option Addr) (m d : Nat) (ys : List Int) (w : World) (ha : RS EByte w A n zs) (hn : n ≤ c) (hc : c ≤ 9223372036854775807) (hb : RS EByte w B m ys) (hm : m ≤ d) (hd : d ≤ 9223372036854775807) :
    Calls Try.prog 3 #[.slice A n c, .slice B m d] w fun e w' => e = .returned (.bool true) ∧ Below w.heap.size w w' := by
  by_cases h1 : n ≤ 1048576
  · by_cases h2 : m ≤ 1048576
    · exact law_Transversals_ok A n c zs B m d ys w ha h1 hb h2
    · go_enter Try.func3, Try.ntmps3
      go_wp2_with fail
      refine (b10Long_no A n c _ h1).mono ?_
      rintro e w' ⟨rfl, rfl⟩
      go_wp2_with fail
      refine (b10Long_yes B m d _ (by omega)).mono ?_
      rintro e w' ⟨rfl, rfl⟩
      go_wp2
      go_ret
      exact ⟨rfl, Below.refl _ _⟩
  · go_enter Try.func3, Try.ntmps3
    go_wp2_with fail
    refine (b10Long_yes A n c _ (by omega)).mono ?_
    rintro e w' ⟨rfl, rfl⟩
    go_wp2
    go_ret
    exact ⟨rfl, Below.refl _ _⟩
end Go.Proofs.Ytcnjlkabdfcjdaa
