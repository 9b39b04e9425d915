/- Groups, the reference's validity. No condition beyond those stated. -/
import Derived.Test.YtdkbcjdimhgmnaaGreatRIG
import Derived.Test.YtdkbcjdimhgmnaaGreatRIF
set_option linter.unusedVariables false
set_option linter.unusedSimpArgs false
namespace Go.Proofs.YtdkbcjdimhgmnaaGreat
open Go.RowKit
set_option maxRecDepth 100000 in
set_option maxHeartbeats 1000000 in
theorem l05Generators_any (n : Nat) (LA : Option Addr) (ln lc : Nat) (L : List (List Int)) (w : World) (hL : RR w LA ln L) (hp : AllN n L) (hu : StrictL cmpL L) (hn : n ≤ 32) (h1 : 1 ≤ ln) (h2 : ln ≤ 720) :
    Calls Tryz.prog 148 #[.int .i64 n, .slice LA ln lc] w (fun e w' => ∃ (A : Option Addr) (m c : Nat), e = .returned (.tuple #[.slice A m c, .bool (tB (ClosedG n L))]) ∧ Below w.heap.size w w') := by
  have hll := Lib.hid hL.len
  have HP := Lib.hid hp
  have HU := Lib.hid hu
  obtain ⟨W1, hW1⟩ : ∃ W1, w.alloc (.cells #[] 22) = W1 := ⟨_, rfl⟩
  have hb1 : Below w.heap.size w W1 := hW1 ▸ below_alloc w _
  have ho1 : OB W1 w.heap.size (some ⟨w.heap.size, 0, none⟩) 0 0 [] [] := hW1 ▸ ⟨OS.lit w w.heap.size 22 1 0 #[] (Nat.le_refl _) rfl (by omega), rfl, fun j v z h => by simp at h⟩
  have hc0 := l05Close_any n (some ⟨w.heap.size, 0, none⟩) 0 0 [] 1 W1 (RS.nil_ _ _ _) (fun g h => by simp at h) hn (by omega) (by omega) (by omega)
  clear hp hu
  go_enter Tryz.func148, Tryz.ntmps148
  go_wp2_with fail
  refine hc0.mono ?_
  rintro e w2 ⟨A2, m2, c2, ok2, M2, rfl, hb2, r2, hmc2, hcc2, hs2⟩
  have hGen : ∀ x, Gen n [] x → x = iotaP n := fun x hx => by
    cases hx with
    | one => rfl
    | mul _ h => simp at h
  have hst : Chose n L [] M2 0 := by
    rcases hs2 with ⟨_, _, h3⟩ | ⟨_, _, E, h4, h5, h6⟩
    · exact ⟨fun g h => by simp at h, h3, fun i h => by omega⟩
    · exfalso
      have := h4.length_le_of_subset (l₂ := [iotaP n]) fun x hx => by rw [hGen x (h5 x hx)]; simp
      simp at this
      omega
  have hm2 : m2 ≤ 720 := by
    rw [← r2.len]
    rcases hs2 with ⟨_, h, _⟩ | ⟨_, h, _⟩
    · omega
    · rw [h]; simp
  have HST := Lib.hid hst
  have ho2 := ho1.below hb2
  have hb02 := hb1.trans (hb2.mono hb1.size)
  clear hc0 hs2 hst ho1 hb2 hb1
  go_wp2
  go_loopw [6, 7, 9] (fun ov hv i wr => ∃ (k : Nat) (OA : Option Addr) (on oc : Nat) (vs : List Sl) (gs : List (List Int)) (A : Option Addr) (m c : Nat) (M : List (List Int)), k ≤ ln ∧ on ≤ k ∧ m ≤ 720 ∧ m ≤ c ∧ c ≤ 9223372036854775807 ∧ ov = .slice OA on oc ∧ hv = .slice A m c ∧ i = .int .i64 k ∧ OB wr w.heap.size OA on oc vs gs ∧ RR wr A m M ∧ Below w.heap.size w wr ∧ Chose n L gs M k) (fun _ _ i _ => ln - (intOf i).toNat)
  case atStart => exact ⟨0, _, 0, 0, [], [], A2, m2, c2, M2, Nat.zero_le _, Nat.le_refl _, hm2, hmc2, hcc2, rfl, rfl, rfl, ho2, r2, hb02, HST.out⟩
  case round =>
    clear ho2 r2 hb02 HST hm2 hmc2 hcc2 hW1
    obtain ⟨k, OA, on, oc, vs, gs, A, m, c, M, hk, hok, hm, hmc, hcc, rfl, rfl, rfl, hO, hA, hb, hc⟩ := hrel
    by_cases hlt : k < ln
    · have hkL : k < L.length := by rw [hll.out]; exact hlt
      obtain ⟨la, P, pn, pc, rfl, cp0, hp1, hp2, rp⟩ := hL.get hlt
      have cp := below_cell hb cp0
      have rp1 := rp.keep hb
      have hpn : (row L k).length = n := (HP.out _ (by rw [row_get hkL]; exact List.getElem_mem _)).1
      have hfd := l05Find_any A m c M P pn pc (row L k) wr hA (by omega) rp1 hp1 hp2 hc.all.1
      have HKL := Lib.hid hkL
      have HC := Lib.hid hc
      have HPN := Lib.hid (show pn = n from rp.len.symm.trans hpn)
      clear hc hpn
      go_wp2_with fail
      refine hfd.mono ?_
      rintro e w3 ⟨at_, fnd, rfl, hat, hd3⟩
      cases fnd with
      | true =>
        have HN := Lib.hid (HC.out.skip (fdAt_in hat))
        have hO3 := hO.below hd3.below
        have hA3 := hA.keep hd3.below
        have hb3 := hb.trans (hd3.below.mono hb.size)
        clear hfd hat rp1 cp
        go_wp2
        go_roundw
        case rel => exact ⟨k + 1, OA, on, oc, vs, gs, A, m, c, M, by omega, by omega, hm, hmc, hcc, rfl, rfl, by go_num, hO3, hA3, hb3, HN.out⟩
        case measure => simp [intOf]; omega
      | false =>
        have hO3 := hO.below hd3.below
        have hb3 := hb.trans (hd3.below.mono hb.size)
        have cp3 := below_cell hd3.below cp
        have hown := l00Own_any P pn pc (row L k) w3 (rp1.keep hd3.below) (by have := HPN.out; omega)
        have hob : on + 1 ≤ 2199023255552 := by omega
        clear hfd hat rp1 hA hO hb
        go_wp2_with fail
        refine hown.mono ?_
        rintro e w4 ⟨R, rn, rc, rfl, hoR, hb4⟩
        have hO4 := hO3.below hb4
        have hoR4 := hoR.more hb3.size
        have hb04 := hb3.trans (hb4.mono hb3.size)
        have hs4 := hb04.size
        have hO4o := hO4.os
        have HO4 := Lib.hid hO4
        clear hown hO3 hO4 cp3 cp
        go_wp2_with (at_builtin; refine app_sl _ rfl (.tmp 37) (.tmp 43) rfl w.heap.size OA on oc vs rfl hO4o (R, rn, rc) w4.heap.size rfl rfl hob hs4 ?_; intro O5 oc5 w5 ho5 hg5 hn5)
        have hO5 := HO4.out.snoc hg5 hoR4 ho5
        have hb5 := hb04.grown hg5 hs4 (fun q hq => (hO4o.lt hq).1)
        have hsub : ∀ g ∈ gs ++ [row L k], g ∈ L := fun g hg => by
          rcases List.mem_append.1 hg with hg | hg
          · exact HC.out.sub g hg
          · rw [List.mem_singleton.1 hg, row_get HKL.out]; exact List.getElem_mem _
        have hcl := l05Close_any n O5 (on + 1) oc5 (gs ++ [row L k]) ln w5 hO5.reads (fun g hg => HP.out g (hsub g hg)) hn (by omega) h1 h2
        have HSUB := Lib.hid hsub
        clear hsub hO4o hoR hoR4 hg5 ho5 hn5 hb04
        go_wp2_with fail
        refine hcl.mono ?_
        rintro e w6 ⟨A6, m6, c6, ok6, M6, rfl, hb6, r6, hmc6, hcc6, hs6⟩
        have hb06 := hb5.trans (hb6.mono hb5.size)
        have hO6 := hO5.below hb6
        cases ok6 with
        | true =>
          have hg6 : M6.length ≤ ln ∧ GenL n (gs ++ [row L k]) M6 := by
            rcases hs6 with ⟨_, h⟩ | ⟨h, _⟩
            · exact h
            · cases h
          have HN := Lib.hid (HC.out.take HKL.out HP.out hg6.2)
          have hm6 : m6 ≤ 720 := by rw [← r6.len]; omega
          clear hcl hs6 hg6 hO5 hb5 hb6
          go_wp2
          go_roundw
          case rel => exact ⟨k + 1, O5, on + 1, oc5, _, gs ++ [row L k], A6, m6, c6, M6, by omega, by omega, hm6, hmc6, hcc6, rfl, rfl, by go_num, hO6, r6, hb06, HN.out⟩
          case measure => simp [intOf]; omega
        | false =>
          have hov : Over n (gs ++ [row L k]) ln := by
            rcases hs6 with ⟨h, _⟩ | ⟨_, _, h⟩
            · cases h
            · exact h
          have H := Lib.hid (show tB (ClosedG n L) = false from tB_no fun hh => hh.not_over HSUB.out (by rw [hll.out]; exact Nat.le_refl _) hov)
          clear hcl hs6 hov hO5 hb5 hb6
          go_wp2
          go_ret2
          exact ⟨none, 0, 0, by rw [H.out]; rfl, hb06⟩
    · obtain rfl : k = ln := by omega
      have hcE : Chose n L gs M L.length := by rw [hll.out]; exact hc
      have hsm := l10Same_any A LA m k c lc M L wr hA (hL.keep hb) (by omega) (by omega)
      have H := Lib.hid (show decide (M = L) = tB (ClosedG n L) by
        by_cases hcl : ClosedG n L
        · rw [tB_yes hcl, decide_eq_true_iff]
          exact closed_all HU.out hcl hcE.sub hcE.all hcE.mem
        · rw [tB_no hcl, decide_eq_false_iff_not]
          intro e
          exact hcl (closed_of HU.out (fun g hg => HP.out g (hcE.sub g hg)) hcE.all hcE.mem (by rw [e]; exact Nat.le_refl _)).2)
      clear hc hcE
      go_wp2_with fail
      refine hsm.mono ?_
      rintro e w3 ⟨rfl, hd3⟩
      rw [H.out]
      clear hsm
      go_wp2
      go_ret2
      exact ⟨OA, on, oc, rfl, hb.trans (hd3.below.mono hb.size)⟩
theorem permN_iff {n : Nat} (hn : n ≤ 32) {p : List Int} (h : p.length = n) : PermOk p ↔ PermN n p := ⟨fun h1 => ⟨h, h1.2⟩, fun h1 => ⟨by rw [h]; exact hn, h1.2⟩⟩
theorem keepG {W w' : World} {p1 p2 : Addr} {u1 u2 : Value} (hb : Below W.heap.size W w') (h1 : W.cell? p1 = some u1) (h2 : W.cell? p2 = some u2) : Below W.heap.size W w' ∧ w'.cell? p1 = some u1 ∧ w'.cell? p2 = some u2 := ⟨hb, below_cell hb h1, below_cell hb h2⟩
theorem riseG_one (L : List (List Int)) : riseG L 1 := fun i h => by omega
theorem riseG_zero (L : List (List Int)) : riseG L 0 := fun i h => by omega
set_option maxRecDepth 100000 in
set_option maxHeartbeats 2000000 in
theorem l05Ok_any (g : Nat) (d : Int) (A : Option Addr) (n c : Nat) (L : List (List Int)) (w : World) (hB : Blk w g 68 #[.int .i64 d, .slice A n c]) (hL : RR w A n L) (hn : n ≤ 9223372036854775807) :
    Calls Tryz.prog 87 #[.pointer (some ⟨g, 0, none⟩)] w (RetB w (tB (GroupOk d L))) := by
  have hll := Lib.hid hL.len
  obtain ⟨x0, x1⟩ := hB.cells2
  cases hi : inB d 1 32 with
  | false =>
    have H := Lib.hid (show tB (GroupOk d L) = false from tB_no fun hh => by rw [inB_mk ⟨hh.d1, hh.d2⟩] at hi; cases hi)
    go_enter Tryz.func87, Tryz.ntmps87
    go_wp2_with (go_at_call 37; refine (l00In_any _ _ _ _).mono ?_; rintro e w' ⟨rfl, rfl⟩; rw [hi])
    go_ret
    exact ⟨by rw [H.out]; rfl, Below.refl _ _⟩
  | true =>
    obtain ⟨d1, d2⟩ := inB_true hi
    obtain ⟨D, rfl⟩ : ∃ D : Nat, d = (D : Int) := ⟨d.toNat, by omega⟩
    by_cases h0 : n = 0
    · have H := Lib.hid (show tB (GroupOk (D : Int) L) = false from tB_no fun hh => by have := hh.l1; rw [hll.out] at this; omega)
      subst h0
      go_enter Tryz.func87, Tryz.ntmps87
      go_wp2_with (go_at_call 37; refine (l00In_any _ _ _ _).mono ?_; rintro e w' ⟨rfl, rfl⟩; rw [hi])
      go_ret
      exact ⟨by rw [H.out]; rfl, Below.refl _ _⟩
    · have h0' : ((n : Int) == 0) = false := by simp; omega
      by_cases h7 : n > 720
      · have H := Lib.hid (show tB (GroupOk (D : Int) L) = false from tB_no fun hh => by have := hh.l2; rw [hll.out] at this; omega)
        have h7' : (n : Int) > 720 := by omega
        go_enter Tryz.func87, Tryz.ntmps87
        go_wp2_with (go_at_call 37; refine (l00In_any _ _ _ _).mono ?_; rintro e w' ⟨rfl, rfl⟩; rw [hi])
        go_ret
        exact ⟨by rw [H.out]; rfl, Below.refl _ _⟩
      · have h7' : ¬ (n : Int) > 720 := by omega
        go_enter Tryz.func87, Tryz.ntmps87
        go_wp2_with (go_at_call 37; refine (l00In_any _ _ _ _).mono ?_; rintro e w' ⟨rfl, rfl⟩; rw [hi])
        go_loopw [3] (fun i wr => ∃ k : Nat, k ≤ n ∧ i = .int .i64 k ∧ Drawn w wr ∧ (∀ j, j < k → PermN D (row L j)) ∧ riseG L k) (fun i _ => n - (intOf i).toNat)
        case atStart => exact ⟨0, Nat.zero_le _, rfl, Drawn.refl _, fun j h => by omega, riseG_zero L⟩
        case round =>
          clear x0 x1
          obtain ⟨k, hk, rfl, hd, hpm, hup⟩ := hrel
          obtain ⟨x0, x1⟩ := (hB.after hd.below).cells2
          by_cases hlt : k < n
          · have hkL : k < L.length := by rw [hll.out]; exact hlt
            obtain ⟨a, A1, n1, c1, rfl, hca, hn1, hc1, ha1⟩ := (hL.drawn hd).get hlt
            have hok := fun (q : Nat) => l04Ok_any A1 n1 c1 (row L k) (wr.drewN q) (ha1.drewN q) hn1 hc1
            have hrl := ha1.len
            have HKL := Lib.hid hkL
            have hbad : ¬ PermN D (row L k) → tB (GroupOk (D : Int) L) = false := fun hnp => tB_no fun hh => hnp (by
              have := hh.perm (row L k) (by rw [row_get HKL.out]; exact List.getElem_mem _)
              simpa using this)
            cases hpo : tB (PermOk (row L k)) with
            | false =>
              rw [hpo] at hok
              have H := Lib.hid (hbad fun hh => by
                rw [tB_yes ((permN_iff (by omega) hh.1).2 hh)] at hpo; cases hpo)
              clear hbad hpo hpm hup hrl hkL
              go_wp2
              go_quiet ((go_at_call 82; exact Quiet.call (hok _)))
              go_wp2
              go_ret
              exact ⟨by rw [H.out]; rfl, (hd.more _).below⟩
            | true =>
              rw [hpo] at hok
              by_cases hnd : n1 = D
              · obtain rfl : n1 = D := hnd
                have hPk := (permN_iff (by omega) hrl).1 (tB_true.1 hpo)
                have HPM := Lib.hid (show ∀ j, j < k + 1 → PermN n1 (row L j) from fun j hj => by
                  rcases Nat.lt_succ_iff_lt_or_eq.1 hj with h | h
                  · exact hpm j h
                  · rw [h]; exact hPk)
                clear hbad hpo hpm hrl hkL hPk
                by_cases hk0 : k = 0
                · have HUP := Lib.hid (show riseG L (k + 1) by rw [hk0]; exact riseG_one L)
                  have g1 : decide ((0 : Int) < (k : Int)) = false := by simp; omega
                  have g2 : decide (0 < k) = false := by simp; omega
                  have g3 : ¬ (k : Int) > 0 := by omega
                  clear hup hk0
                  go_wp2
                  go_quiet ((go_at_call 82; exact Quiet.call (hok _)))
                  go_wp2
                  go_roundw
                  case rel => exact ⟨k + 1, by omega, by go_num, hd.more _, HPM.out, HUP.out⟩
                  case measure => simp [intOf]; omega
                · have h0' : 0 < k := by omega
                  obtain ⟨b, A2, n2, c2, hb', hcb, hn2, hc2, ha2⟩ := (hL.drawn hd).get (show k - 1 < n by omega)
                  obtain rfl : a = b := by injection hb'
                  clear hb' hk0
                  have hcm : ∀ q, Calls Tryz.prog 131 #[.slice A2 n2 c2, .slice A1 n1 c1] (wr.drewN q) (Quiet (wr.drewN q) (.int .i64 (cmpL (row L (k - 1)) (row L k)))) := fun q =>
                    compareLists_any A2 A1 n2 n1 c2 c1 _ _ _ (ha2.drewN q) (ha1.drewN q) (by omega) (by omega)
                  have e1 : IntKind.i64.wrap ((k : Int) - 1) = (k : Int) - 1 := IntWalk.i64_in _ (by omega)
                  have e2 : ((k : Int) - 1).toNat = k - 1 := by omega
                  have e3 : (0 : Int) ≤ (k : Int) - 1 := by omega
                  have hbd := cmpL_bd (row L (k - 1)) (row L k)
                  by_cases hc : cmpL (row L (k - 1)) (row L k) < 0
                  · have HN := Lib.hid (riseG_step h0' hup hc)
                    generalize cmpL (row L (k - 1)) (row L k) = s at *
                    have hs' : ¬ s ≥ 0 := by omega
                    clear hup ha1 ha2
                    go_wp2
                    go_quiet ((first | (go_at_call 82; exact Quiet.call (hok _)) | (go_at_call 131; exact Quiet.call (hcm _))))
                    clear e1 e2 e3
                    go_wp2
                    go_roundw
                    case rel => exact ⟨k + 1, by omega, by go_num, hd.more _, HPM.out, HN.out⟩
                    case measure => simp [intOf]; omega
                  · have H := Lib.hid (show tB (GroupOk (n1 : Int) L) = false from tB_no fun hh => hc (row_strict hh.up (show k - 1 < k by omega) HKL.out))
                    generalize cmpL (row L (k - 1)) (row L k) = s at *
                    have hs' : s ≥ 0 := by omega
                    clear hup ha1 ha2
                    go_wp2
                    go_quiet ((first | (go_at_call 82; exact Quiet.call (hok _)) | (go_at_call 131; exact Quiet.call (hcm _))))
                    clear e1 e2 e3
                    go_wp2
                    go_ret
                    exact ⟨by rw [H.out]; rfl, (hd.more _).below⟩
              · have H := Lib.hid (hbad fun hh => hnd (hrl.symm.trans hh.1))
                have hne : ((n1 : Int) != (D : Int)) = true := by simp; omega
                have hne2 : ((n1 : Int) == (D : Int)) = false := by simp; omega
                clear hbad hpo hpm hup hrl hkL hnd
                go_wp2
                go_quiet ((go_at_call 82; exact Quiet.call (hok _)))
                go_wp2
                go_ret
                exact ⟨by rw [H.out]; rfl, (hd.more _).below⟩
          · obtain rfl : k = n := by omega
            have hu : StrictL cmpL L := riseG_strict (by rw [hll.out]; exact hup)
            have hall : AllN D L := fun g hg => by
              obtain ⟨j, hj, rfl⟩ := List.mem_iff_getElem.1 hg
              have := hpm j (by rw [← hll.out]; exact hj)
              rwa [row_get hj] at this
            have hgen := fun (w' : World) (hb : Below wr.heap.size wr w') => l05Generators_any D A k c L w' ((hL.drawn hd).keep hb) hall hu (by omega) (by omega) (by omega)
            have HGE := Lib.hid hgen
            have H := Lib.hid (show tB (ClosedG D L) = tB (GroupOk (D : Int) L) from tB_congr ⟨fun h => ⟨d1, d2, by rw [hll.out]; omega, by rw [hll.out]; omega, by simpa using hall, hu, by simpa using h⟩, fun h => by simpa using h.closed⟩)
            have hdr : Below wr.heap.size wr wr.drew := by have := below_drewn wr 1; rwa [← World.drew_is_drewN] at this
            clear hgen hpm hup hall hu
            go_wp2
            go_region_held3 (fun w' => Below wr.heap.size wr w' ∧ w'.cell? ⟨g, 0, none⟩ = some (.int .i64 (D : Int)) ∧ w'.cell? ⟨g, 1, none⟩ = some (.slice A k c))
              (first | exact keepG (below_drewn _ 1) x0 x1 | exact keepG (below_then (And.left (by assumption)) (by assumption)) x0 x1)
              (first | (go_at_call 148; (with_reducible refine (HGE.out _ ?_).mono ?_); (exact And.left (by assumption)); rintro e w4 ⟨GA, gm, gc, rfl, hb4⟩))
            have hb5 : Below wr.heap.size wr w4 := And.left (by assumption)
            rw [H.out]
            go_wp2
            go_ret
            exact ⟨rfl, hd.below.trans (hb5.mono hd.below.size)⟩
end Go.Proofs.YtdkbcjdimhgmnaaGreat
