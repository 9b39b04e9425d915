/- Groups, the reference's validity. No condition beyond those stated. -/
import Derived.Test.YtkeeneedaekfoaaGreatIG
import Derived.Test.YtkeeneedaekfoaaGreatIF
import Derived.Deep.RegionHeld3
import Derived.Test.YtkeeneedaekfoaaGreatGC
set_option linter.unusedVariables false
set_option linter.unusedSimpArgs false
namespace Go.Proofs.YtkeeneedaekfoaaGreat
open Go.RowKit

set_option maxRecDepth 100000 in
set_option maxHeartbeats 1000000 in
theorem l05Generators_any (n : Nat) (LA : Option Addr) (ln lc : Nat) (L : List (List Int)) (w : World) (hL : RR w LA ln L) (hp : AllN n L) (hu : StrictL cmpL L) (hn : n ≤ 32) (h1 : 1 ≤ ln) (h2 : ln ≤ 720) :
    Calls Tryz.prog 65 #[.int .i64 n, .slice LA ln lc] w (fun e w' => ∃ (A : Option Addr) (m c : Nat), e = .returned (.tuple #[.slice A m c, .bool (tB (ClosedG n L))]) ∧ Below w.heap.size w w') := by
  have hll := Lib.hid hL.len
  have HP := Lib.hid hp
  have HU := Lib.hid hu
  obtain ⟨W1, hW1⟩ : ∃ W1, w.alloc (.cells #[] 44) = W1 := ⟨_, rfl⟩
  have hb1 : Below w.heap.size w W1 := hW1 ▸ below_alloc w _
  have ho1 : OB W1 w.heap.size (some ⟨w.heap.size, 0, none⟩) 0 0 [] [] := hW1 ▸ ⟨OS.lit w w.heap.size 44 1 0 #[] (Nat.le_refl _) rfl (by omega), rfl, fun j v z h => by simp at h⟩
  have hc0 := l05Close_any n (some ⟨w.heap.size, 0, none⟩) 0 0 [] 1 W1 (RS.nil_ _ _ _) (fun g h => by simp at h) hn (by omega) (by omega) (by omega)
  clear hp hu
  go_enter Tryz.func65, Tryz.ntmps65
  go_wp2_with fail
  refine hc0.mono ?_
  rintro e w2 ⟨A2, m2, c2, ok2, M2, rfl, hb2, r2, hmc2, hcc2, hs2⟩
  have hGen : ∀ x, Gen n [] x → x = iotaP n := fun x hx => by
    cases hx with
    | one => rfl
    | mul _ h => simp at h
  have hst : Chose n L [] M2 0 := by
    rcases hs2 with ⟨_, _, h3⟩ | ⟨_, _, E, h4, h5, h6⟩
    · exact ⟨fun g h => by simp at h, h3, fun i h => by omega⟩
    · exfalso
      have := h4.length_le_of_subset (l₂ := [iotaP n]) fun x hx => by rw [hGen x (h5 x hx)]; simp
      simp at this
      omega
  have hm2 : m2 ≤ 720 := by
    rw [← r2.len]
    rcases hs2 with ⟨_, h, _⟩ | ⟨_, h, _⟩
    · omega
    · rw [h]; simp
  have HST := Lib.hid hst
  have ho2 := ho1.below hb2
  have hb02 := hb1.trans (hb2.mono hb1.size)
  clear hc0 hs2 hst ho1 hb2 hb1
  go_wp2
  go_loopw [6, 7, 9] (fun ov hv i wr => ∃ (k : Nat) (OA : Option Addr) (on oc : Nat) (vs : List Sl) (gs : List (List Int)) (A : Option Addr) (m c : Nat) (M : List (List Int)), k ≤ ln ∧ on ≤ k ∧ m ≤ 720 ∧ m ≤ c ∧ c ≤ 9223372036854775807 ∧ ov = .slice OA on oc ∧ hv = .slice A m c ∧ i = .int .i64 k ∧ OB wr w.heap.size OA on oc vs gs ∧ RR wr A m M ∧ Below w.heap.size w wr ∧ Chose n L gs M k) (fun _ _ i _ => ln - (intOf i).toNat)
  case atStart => exact ⟨0, _, 0, 0, [], [], A2, m2, c2, M2, Nat.zero_le _, Nat.le_refl _, hm2, hmc2, hcc2, rfl, rfl, rfl, ho2, r2, hb02, HST.out⟩
  case round =>
    clear ho2 r2 hb02 HST hm2 hmc2 hcc2 hW1
    obtain ⟨k, OA, on, oc, vs, gs, A, m, c, M, hk, hok, hm, hmc, hcc, rfl, rfl, rfl, hO, hA, hb, hc⟩ := hrel
    by_cases hlt : k < ln
    · have hkL : k < L.length := by rw [hll.out]; exact hlt
      obtain ⟨la, P, pn, pc, rfl, cp0, hp1, hp2, rp⟩ := hL.get hlt
      have cp := below_cell hb cp0
      have rp1 := rp.keep hb
      have hpn : (row L k).length = n := (HP.out _ (by rw [row_get hkL]; exact List.getElem_mem _)).1
      have hfd := l05Find_any A m c M P pn pc (row L k) wr hA (by omega) rp1 hp1 hp2 hc.all.1
      have HKL := Lib.hid hkL
      have HC := Lib.hid hc
      have HPN := Lib.hid (show pn = n from rp.len.symm.trans hpn)
      clear hc hpn
      go_wp2_with fail
      refine hfd.mono ?_
      rintro e w3 ⟨at_, fnd, rfl, hat, hd3⟩
      cases fnd with
      | true =>
        have HN := Lib.hid (HC.out.skip (fdAt_in hat))
        have hO3 := hO.below hd3.below
        have hA3 := hA.keep hd3.below
        have hb3 := hb.trans (hd3.below.mono hb.size)
        clear hfd hat rp1 cp
        go_wp2
        go_roundw
        case rel => exact ⟨k + 1, OA, on, oc, vs, gs, A, m, c, M, by omega, by omega, hm, hmc, hcc, rfl, rfl, by go_num, hO3, hA3, hb3, HN.out⟩
        case measure => simp [intOf]; omega
      | false =>
        have hO3 := hO.below hd3.below
        have hb3 := hb.trans (hd3.below.mono hb.size)
        have cp3 := below_cell hd3.below cp
        have hown := l00Own_any P pn pc (row L k) w3 (rp1.keep hd3.below) (by have := HPN.out; omega)
        have hob : on + 1 ≤ 2199023255552 := by omega
        clear hfd hat rp1 hA hO hb
        go_wp2_with fail
        refine hown.mono ?_
        rintro e w4 ⟨R, rn, rc, rfl, hoR, hb4⟩
        have hO4 := hO3.below hb4
        have hoR4 := hoR.more hb3.size
        have hb04 := hb3.trans (hb4.mono hb3.size)
        have hs4 := hb04.size
        have hO4o := hO4.os
        have HO4 := Lib.hid hO4
        clear hown hO3 hO4 cp3 cp
        go_wp2_with (at_builtin; refine app_sl _ rfl (.tmp 37) (.tmp 43) rfl w.heap.size OA on oc vs rfl hO4o (R, rn, rc) w4.heap.size rfl rfl hob hs4 ?_; intro O5 oc5 w5 ho5 hg5 hn5)
        have hO5 := HO4.out.snoc hg5 hoR4 ho5
        have hb5 := hb04.grown hg5 hs4 (fun q hq => (hO4o.lt hq).1)
        have hsub : ∀ g ∈ gs ++ [row L k], g ∈ L := fun g hg => by
          rcases List.mem_append.1 hg with hg | hg
          · exact HC.out.sub g hg
          · rw [List.mem_singleton.1 hg, row_get HKL.out]; exact List.getElem_mem _
        have hcl := l05Close_any n O5 (on + 1) oc5 (gs ++ [row L k]) ln w5 hO5.reads (fun g hg => HP.out g (hsub g hg)) hn (by omega) h1 h2
        have HSUB := Lib.hid hsub
        clear hsub hO4o hoR hoR4 hg5 ho5 hn5 hb04
        go_wp2_with fail
        refine hcl.mono ?_
        rintro e w6 ⟨A6, m6, c6, ok6, M6, rfl, hb6, r6, hmc6, hcc6, hs6⟩
        have hb06 := hb5.trans (hb6.mono hb5.size)
        have hO6 := hO5.below hb6
        cases ok6 with
        | true =>
          have hg6 : M6.length ≤ ln ∧ GenL n (gs ++ [row L k]) M6 := by
            rcases hs6 with ⟨_, h⟩ | ⟨h, _⟩
            · exact h
            · cases h
          have HN := Lib.hid (HC.out.take HKL.out HP.out hg6.2)
          have hm6 : m6 ≤ 720 := by rw [← r6.len]; omega
          clear hcl hs6 hg6 hO5 hb5 hb6
          go_wp2
          go_roundw
          case rel => exact ⟨k + 1, O5, on + 1, oc5, _, gs ++ [row L k], A6, m6, c6, M6, by omega, by omega, hm6, hmc6, hcc6, rfl, rfl, by go_num, hO6, r6, hb06, HN.out⟩
          case measure => simp [intOf]; omega
        | false =>
          have hov : Over n (gs ++ [row L k]) ln := by
            rcases hs6 with ⟨h, _⟩ | ⟨_, _, h⟩
            · cases h
            · exact h
          have H := Lib.hid (show tB (ClosedG n L) = false from tB_no fun hh => hh.not_over HSUB.out (by rw [hll.out]; exact Nat.le_refl _) hov)
          clear hcl hs6 hov hO5 hb5 hb6
          go_wp2
          go_ret2
          exact ⟨none, 0, 0, by rw [H.out]; rfl, hb06⟩
    · obtain rfl : k = ln := by omega
      have hcE : Chose n L gs M L.length := by rw [hll.out]; exact hc
      have hsm := l10Same_any A LA m k c lc M L wr hA (hL.keep hb) (by omega) (by omega)
      have H := Lib.hid (show decide (M = L) = tB (ClosedG n L) by
        by_cases hcl : ClosedG n L
        · rw [tB_yes hcl, decide_eq_true_iff]
          exact closed_all HU.out hcl hcE.sub hcE.all hcE.mem
        · rw [tB_no hcl, decide_eq_false_iff_not]
          intro e
          exact hcl (closed_of HU.out (fun g hg => HP.out g (hcE.sub g hg)) hcE.all hcE.mem (by rw [e]; exact Nat.le_refl _)).2)
      clear hc hcE
      go_wp2_with fail
      refine hsm.mono ?_
      rintro e w3 ⟨rfl, hd3⟩
      rw [H.out]
      clear hsm
      go_wp2
      go_ret2
      exact ⟨OA, on, oc, rfl, hb.trans (hd3.below.mono hb.size)⟩
theorem permN_iff {n : Nat} (hn : n ≤ 32) {p : List Int} (h : p.length = n) : PermOk p ↔ PermN n p := ⟨fun h1 => ⟨h, h1.2⟩, fun h1 => ⟨by rw [h]; exact hn, h1.2⟩⟩
theorem keepG {W w' : World} {p1 p2 : Addr} {u1 u2 : Value} (hb : Below W.heap.size W w') (h1 : W.cell? p1 = some u1) (h2 : W.cell? p2 = some u2) : Below W.heap.size W w' ∧ w'.cell? p1 = some u1 ∧ w'.cell? p2 = some u2 := ⟨hb, below_cell hb h1, below_cell hb h2⟩
theorem riseG_one (L : List (List Int)) : riseG L 1 := fun i h => by omega
theorem riseG_zero (L : List (List Int)) : riseG L 0 := fun i h => by omega
set_option maxRecDepth 100000 in
set_option maxHeartbeats 2000000 in
theorem l05Ok_any (g : Nat) (d : Int) (A : Option Addr) (n c : Nat) (L : List (List Int)) (w : World) (hB : Blk w g 30 #[.int .i64 d, .slice A n c]) (hL : RR w A n L) (hn : n ≤ 9223372036854775807) :
    Calls Tryz.prog 42 #[.pointer (some ⟨g, 0, none⟩)] w (RetB w (tB (GroupOk d L))) := by
  have hll := Lib.hid hL.len
  obtain ⟨x0, x1⟩ := hB.cells2
  cases hi : inB d 1 32 with
  | false =>
    have H := Lib.hid (show tB (GroupOk d L) = false from tB_no fun hh => by rw [inB_mk ⟨hh.d1, hh.d2⟩] at hi; cases hi)
    go_enter Tryz.func42, Tryz.ntmps42
    go_wp2_with (go_at_call 52; refine (l00In_any _ _ _ _).mono ?_; rintro e w' ⟨rfl, rfl⟩; rw [hi])
    go_ret
    exact ⟨by rw [H.out]; rfl, Below.refl _ _⟩
  | true =>
    obtain ⟨d1, d2⟩ := inB_true hi
    obtain ⟨D, rfl⟩ : ∃ D : Nat, d = (D : Int) := ⟨d.toNat, by omega⟩
    by_cases h0 : n = 0
    · have H := Lib.hid (show tB (GroupOk (D : Int) L) = false from tB_no fun hh => by have := hh.l1; rw [hll.out] at this; omega)
      subst h0
      go_enter Tryz.func42, Tryz.ntmps42
      go_wp2_with (go_at_call 52; refine (l00In_any _ _ _ _).mono ?_; rintro e w' ⟨rfl, rfl⟩; rw [hi])
      go_ret
      exact ⟨by rw [H.out]; rfl, Below.refl _ _⟩
    · have h0' : ((n : Int) == 0) = false := by simp; omega
      by_cases h7 : n > 720
      · have H := Lib.hid (show tB (GroupOk (D : Int) L) = false from tB_no fun hh => by have := hh.l2; rw [hll.out] at this; omega)
        have h7' : (n : Int) > 720 := by omega
        go_enter Tryz.func42, Tryz.ntmps42
        go_wp2_with (go_at_call 52; refine (l00In_any _ _ _ _).mono ?_; rintro e w' ⟨rfl, rfl⟩; rw [hi])
        go_ret
        exact ⟨by rw [H.out]; rfl, Below.refl _ _⟩
      · have h7' : ¬ (n : Int) > 720 := by omega
        go_enter Tryz.func42, Tryz.ntmps42
        go_wp2_with (go_at_call 52; refine (l00In_any _ _ _ _).mono ?_; rintro e w' ⟨rfl, rfl⟩; rw [hi])
        go_loopw [3] (fun i wr => ∃ k : Nat, k ≤ n ∧ i = .int .i64 k ∧ Drawn w wr ∧ (∀ j, j < k → PermN D (row L j)) ∧ riseG L k) (fun i _ => n - (intOf i).toNat)
        case atStart => exact ⟨0, Nat.zero_le _, rfl, Drawn.refl _, fun j h => by omega, riseG_zero L⟩
        case round =>
          clear x0 x1
          obtain ⟨k, hk, rfl, hd, hpm, hup⟩ := hrel
          obtain ⟨x0, x1⟩ := (hB.after hd.below).cells2
          by_cases hlt : k < n
          · have hkL : k < L.length := by rw [hll.out]; exact hlt
            obtain ⟨a, A1, n1, c1, rfl, hca, hn1, hc1, ha1⟩ := (hL.drawn hd).get hlt
            have hok := fun (q : Nat) => l04Ok_any A1 n1 c1 (row L k) (wr.drewN q) (ha1.drewN q) hn1 hc1
            have hrl := ha1.len
            have HKL := Lib.hid hkL
            have hbad : ¬ PermN D (row L k) → tB (GroupOk (D : Int) L) = false := fun hnp => tB_no fun hh => hnp (by
              have := hh.perm (row L k) (by rw [row_get HKL.out]; exact List.getElem_mem _)
              simpa using this)
            cases hpo : tB (PermOk (row L k)) with
            | false =>
              rw [hpo] at hok
              have H := Lib.hid (hbad fun hh => by
                rw [tB_yes ((permN_iff (by omega) hh.1).2 hh)] at hpo; cases hpo)
              clear hbad hpo hpm hup hrl hkL
              go_wp2
              go_quiet ((go_at_call 51; exact Quiet.call (hok _)))
              go_wp2
              go_ret
              exact ⟨by rw [H.out]; rfl, (hd.more _).below⟩
            | true =>
              rw [hpo] at hok
              by_cases hnd : n1 = D
              · obtain rfl : n1 = D := hnd
                have hPk := (permN_iff (by omega) hrl).1 (tB_true.1 hpo)
                have HPM := Lib.hid (show ∀ j, j < k + 1 → PermN n1 (row L j) from fun j hj => by
                  rcases Nat.lt_succ_iff_lt_or_eq.1 hj with h | h
                  · exact hpm j h
                  · rw [h]; exact hPk)
                clear hbad hpo hpm hrl hkL hPk
                by_cases hk0 : k = 0
                · have HUP := Lib.hid (show riseG L (k + 1) by rw [hk0]; exact riseG_one L)
                  have g1 : decide ((0 : Int) < (k : Int)) = false := by simp; omega
                  have g2 : decide (0 < k) = false := by simp; omega
                  have g3 : ¬ (k : Int) > 0 := by omega
                  clear hup hk0
                  go_wp2
                  go_quiet ((go_at_call 51; exact Quiet.call (hok _)))
                  go_wp2
                  go_roundw
                  case rel => exact ⟨k + 1, by omega, by go_num, hd.more _, HPM.out, HUP.out⟩
                  case measure => simp [intOf]; omega
                · have h0' : 0 < k := by omega
                  obtain ⟨b, A2, n2, c2, hb', hcb, hn2, hc2, ha2⟩ := (hL.drawn hd).get (show k - 1 < n by omega)
                  obtain rfl : a = b := by injection hb'
                  clear hb' hk0
                  have hcm : ∀ q, Calls Tryz.prog 54 #[.slice A2 n2 c2, .slice A1 n1 c1] (wr.drewN q) (Quiet (wr.drewN q) (.int .i64 (cmpL (row L (k - 1)) (row L k)))) := fun q =>
                    compareLists_any A2 A1 n2 n1 c2 c1 _ _ _ (ha2.drewN q) (ha1.drewN q) (by omega) (by omega)
                  have e1 : IntKind.i64.wrap ((k : Int) - 1) = (k : Int) - 1 := IntWalk.i64_in _ (by omega)
                  have e2 : ((k : Int) - 1).toNat = k - 1 := by omega
                  have e3 : (0 : Int) ≤ (k : Int) - 1 := by omega
                  have hbd := cmpL_bd (row L (k - 1)) (row L k)
                  by_cases hc : cmpL (row L (k - 1)) (row L k) < 0
                  · have HN := Lib.hid (riseG_step h0' hup hc)
                    generalize cmpL (row L (k - 1)) (row L k) = s at *
                    have hs' : ¬ s ≥ 0 := by omega
                    clear hup ha1 ha2
                    go_wp2
                    go_quiet ((first | (go_at_call 51; exact Quiet.call (hok _)) | (go_at_call 54; exact Quiet.call (hcm _))))
                    clear e1 e2 e3
                    go_wp2
                    go_roundw
                    case rel => exact ⟨k + 1, by omega, by go_num, hd.more _, HPM.out, HN.out⟩
                    case measure => simp [intOf]; omega
                  · have H := Lib.hid (show tB (GroupOk (n1 : Int) L) = false from tB_no fun hh => hc (row_strict hh.up (show k - 1 < k by omega) HKL.out))
                    generalize cmpL (row L (k - 1)) (row L k) = s at *
                    have hs' : s ≥ 0 := by omega
                    clear hup ha1 ha2
                    go_wp2
                    go_quiet ((first | (go_at_call 51; exact Quiet.call (hok _)) | (go_at_call 54; exact Quiet.call (hcm _))))
                    clear e1 e2 e3
                    go_wp2
                    go_ret
                    exact ⟨by rw [H.out]; rfl, (hd.more _).below⟩
              · have H := Lib.hid (hbad fun hh => hnd (hrl.symm.trans hh.1))
                have hne : ((n1 : Int) != (D : Int)) = true := by simp; omega
                have hne2 : ((n1 : Int) == (D : Int)) = false := by simp; omega
                clear hbad hpo hpm hup hrl hkL hnd
                go_wp2
                go_quiet ((go_at_call 51; exact Quiet.call (hok _)))
                go_wp2
                go_ret
                exact ⟨by rw [H.out]; rfl, (hd.more _).below⟩
          · obtain rfl : k = n := by omega
            have hu : StrictL cmpL L := riseG_strict (by rw [hll.out]; exact hup)
            have hall : AllN D L := fun g hg => by
              obtain ⟨j, hj, rfl⟩ := List.mem_iff_getElem.1 hg
              have := hpm j (by rw [← hll.out]; exact hj)
              rwa [row_get hj] at this
            have hgen := fun (w' : World) (hb : Below wr.heap.size wr w') => l05Generators_any D A k c L w' ((hL.drawn hd).keep hb) hall hu (by omega) (by omega) (by omega)
            have HGE := Lib.hid hgen
            have H := Lib.hid (show tB (ClosedG D L) = tB (GroupOk (D : Int) L) from tB_congr ⟨fun h => ⟨d1, d2, by rw [hll.out]; omega, by rw [hll.out]; omega, by simpa using hall, hu, by simpa using h⟩, fun h => by simpa using h.closed⟩)
            have hdr : Below wr.heap.size wr wr.drew := by have := below_drewn wr 1; rwa [← World.drew_is_drewN] at this
            clear hgen hpm hup hall hu
            go_wp2
            go_region_held3 (fun w' => Below wr.heap.size wr w' ∧ w'.cell? ⟨g, 0, none⟩ = some (.int .i64 (D : Int)) ∧ w'.cell? ⟨g, 1, none⟩ = some (.slice A k c))
              (first | exact keepG (below_drewn _ 1) x0 x1 | exact keepG (below_then (And.left (by assumption)) (by assumption)) x0 x1)
              (first | (go_at_call 65; (with_reducible refine (HGE.out _ ?_).mono ?_); (exact And.left (by assumption)); rintro e w4 ⟨GA, gm, gc, rfl, hb4⟩))
            have hb5 : Below wr.heap.size wr w4 := And.left (by assumption)
            rw [H.out]
            go_wp2
            go_ret
            exact ⟨rfl, hd.below.trans (hb5.mono hd.below.size)⟩
end Go.Proofs.YtkeeneedaekfoaaGreat
/- The law on GroupObject. No condition. -/
namespace Go.Proofs.YtkeeneedaekfoaaGreat
open Go.RowKit

theorem cells_nil7 : cells [] = 0 := rfl

/-- such a struct, its rows in memory of the call's own -/
def RetGroup (w : World) (v : Int) (zss : List (List Int)) (en : Ending) (w' : World) : Prop :=
  ∃ A n c, en = .returned (.agg #[.int .i64 v, .slice A n c]) ∧ OR w' w.heap.size 44 2 A n c zss ∧ Below w.heap.size w w'

set_option maxHeartbeats 400000 in
theorem szGroup_any (v l : Int) (A : Option Addr) (n c : Nat) (xs : List (List Int)) (w : World) (ha : RR w A n xs) (hn : n ≤ 9223372036854775807) (h0 : 0 ≤ l) (hl : l ≤ 1048576) :
    Calls Tryz.prog 4 #[.agg #[.int .i64 v, .slice A n c], .int .i64 l] w fun e w' => e = .returned (.int .i64 (szF l (bulk xs))) ∧ Below w.heap.size w w' := by
  have hb1 := below_alloc w (.cells #[.int .i64 v, .slice A n c] 24)
  have ha' := ha.keep hb1
  clear ha
  by_cases h : (bulk xs : Int) ≤ l
  · have H := Lib.hid (show szF l (bulk xs) = l - bulk xs by simp [szF, h])
    go_enter Tryz.func4, Tryz.ntmps4
    go_wp2_with (go_at_call 13; refine (szInt64SS_any _ _ _ _ xs _ ha' hn h0 hl).mono ?_; rintro e w1 ⟨rfl, rfl⟩; rw [H.out])
    go_ret
    exact ⟨by rw [H.out]; rfl, hb1⟩
  · have H := Lib.hid (show szF l (bulk xs) = -1 by simp [szF, h])
    clear h
    go_enter Tryz.func4, Tryz.ntmps4
    go_wp2_with (go_at_call 13; refine (szInt64SS_any _ _ _ _ xs _ ha' hn h0 hl).mono ?_; rintro e w1 ⟨rfl, rfl⟩; rw [H.out])
    go_ret
    exact ⟨by rw [H.out]; rfl, hb1⟩
set_option maxHeartbeats 400000 in
theorem toGroup_any (v : Int) (A : Option Addr) (n c : Nat) (xs : List (List Int)) (w : World) (ha : RR w A n xs) (hn : n ≤ 1099511627776) (hr : lens xs n ≤ 1099511627776) :
    Calls Tryz.prog 6 #[.agg #[.int .i64 v, .slice A n c]] w (RetGroup w v xs) := by
  have hb1 := below_alloc w (.cells #[.int .i64 v, .slice A n c] 24)
  go_enter Tryz.func6, Tryz.ntmps6
  go_wp2_with fail
  refine (toInt64SS_any A n c xs _ (ha.keep ((hb1.alloc (by simp) _).alloc (by simp; omega) _)) hn hr).mono ?_
  rintro e w1 ⟨A2, n2, c2, rfl, ho, hb⟩
  obtain ⟨hc, hf⟩ := bcell hb
  have hz : w.heap.size + 1 + 1 < w1.heap.size := by have := hb.size; simp at this; omega
  go_wp2
  refine bodyPost_ret (v := .agg #[.int .i64 v, .slice A2 n2 c2]) (by simp [results, Tryz.results6, go_sem, hc]) rfl ⟨A2, n2, c2, rfl, ?_, ?_⟩
  · have ho' : OR w1 (w.heap.size + 1 + 1 + 1) 44 2 A2 n2 c2 xs := by simpa using ho
    refine OR.more (B := w.heap.size + 1 + 1 + 1) ?_ (by omega)
    repeat (refine OR.setLow ?_ (by simp) _)
    exact ho'
  · repeat (refine Below.setCell ?_ (by simp; try omega) _)
    exact ((hb1.alloc (by simp) _).alloc (by simp; omega) _).trans (hb.mono (by simp; omega))
set_option maxHeartbeats 400000 in
theorem eqGroup_same (v : Int) (A B : Option Addr) (n m c d : Nat) (xs : List (List Int)) (w : World) (ha : RR w A n xs) (hb : RR w B m xs) (hn : n ≤ 9223372036854775807) (hm : m ≤ 9223372036854775807) :
    Calls Tryz.prog 9 #[.agg #[.int .i64 v, .slice A n c], .agg #[.int .i64 v, .slice B m d]] w fun e w' => e = .returned (.bool true) ∧ Below w.heap.size w w' := by
  have hb2 := below_then (below_alloc w (.cells #[.int .i64 v, .slice A n c] 30)) (below_alloc (w.alloc (.cells #[.int .i64 v, .slice A n c] 30)) (.cells #[.int .i64 v, .slice B m d] 30))
  have ha' := ha.keep hb2
  have hb' := hb.keep hb2
  clear ha hb
  go_enter Tryz.func9, Tryz.ntmps9
  go_wp2_with (go_at_call 18; refine (eqInt64SS_any _ _ _ _ _ _ xs xs _ ha' hb' hn hm).mono ?_; rintro e w1 ⟨rfl, hd1⟩; rw [show decide (xs = xs) = true from by simp])
  go_ret
  exact ⟨rfl, hb2.trans (hd1.below.mono hb2.size)⟩
set_option maxHeartbeats 400000 in
theorem markGroup_any (v : Int) (B D : Nat) (A : Option Addr) (n c k : Nat) (zss : List (List Int)) (w : World) (ha : ORd w B D 44 2 A n c zss) (hc : n ≤ 1099511627776) (hn : k + cells zss ≤ 4611686018427387904) :
    Calls Tryz.prog 10 #[.agg #[.int .i64 v, .slice A n c], .int .i64 k] w fun en w' => en = .returned (.int .i64 ((k + cells zss : Nat) : Int)) ∧ ORd w' B D 44 2 A n c (marksR k zss) ∧ Mid w w' B D := by
  have hb := below_alloc w (.cells #[.int .i64 v, .slice A n c] 30)
  go_enter Tryz.func10, Tryz.ntmps10
  go_wp2_with fail
  refine (markInt64SS_any B D _ _ A n c k zss _ (ha.below hb) hc hn).mono ?_
  rintro e w1 ⟨rfl, ho, hm⟩
  go_wp2
  go_ret
  exact ⟨rfl, ho, (Mid.of_below hb (Nat.le_refl _) B D).trans hm⟩

theorem keep2G {W w' : World} {p q : Addr} {u x : Value} (hb : Below W.heap.size W w') (h1 : W.cell? p = some u) (h2 : W.cell? q = some x) : Below W.heap.size W w' ∧ w'.cell? p = some u ∧ w'.cell? q = some x := ⟨hb, below_cell hb h1, below_cell hb h2⟩
set_option maxHeartbeats 2000000 in
theorem judgeGrp (v : Int) (zss : List (List Int)) (w : World) : Judge 7 v zss (tB (GroupOk v zss)) w := by
  intro g A n c W _ hB ha hn hc
  obtain ⟨k1, k2, k3⟩ := hB.cells3
  cases hh : tB (GroupOk v zss) with
  | true =>
    have hcall : ∀ (g' : Nat) (W' : World), Blk W' g' 30 #[.int .i64 v, .slice A n c] → Below W.heap.size W W' → Calls Tryz.prog 42 #[.pointer (some ⟨g', 0, none⟩)] W' (RetB W' true) := fun g' W' hb hw => by
      rw [← hh]; exact l05Ok_any g' v A n c zss W' hb (ha.keep hw) (by omega)
    clear hh
    go_enter Tryz.func23, Tryz.ntmps23
    go_wp2
    go_region_held3 (fun w' => Below W.heap.size W w' ∧ w'.cell? ⟨g, 1, none⟩ = some (.int .i64 v) ∧ w'.cell? ⟨g, 2, none⟩ = some (.slice A n c))
      (first | exact keep2G (below_drewn _ 1) k2 k3 | exact keep2G ((below_alloc W _).trans (below_drewn' _ _ 1)) k2 k3 | exact keep2G (below_then (And.left (by assumption)) (by assumption)) k2 k3)
      (first | (go_at_call 42; (with_reducible refine (hcall _ _ ?_ ?_).mono ?_); (exact Blk.new _ _ _); (exact (below_alloc W _).trans (below_drewn' _ _ 1)); rintro e w2 ⟨rfl, hd2⟩))
    have hw : Below W.heap.size W w2 := And.left (by assumption)
    go_wp2
    go_ret
    exact ⟨rfl, hw⟩
  | false =>
    have hcall : ∀ (g' : Nat) (W' : World), Blk W' g' 30 #[.int .i64 v, .slice A n c] → Below W.heap.size W W' → Calls Tryz.prog 42 #[.pointer (some ⟨g', 0, none⟩)] W' (RetB W' false) := fun g' W' hb hw => by
      rw [← hh]; exact l05Ok_any g' v A n c zss W' hb (ha.keep hw) (by omega)
    clear hh
    go_enter Tryz.func23, Tryz.ntmps23
    go_wp2
    go_region_held3 (fun w' => Below W.heap.size W w' ∧ w'.cell? ⟨g, 1, none⟩ = some (.int .i64 v) ∧ w'.cell? ⟨g, 2, none⟩ = some (.slice A n c))
      (first | exact keep2G (below_drewn _ 1) k2 k3 | exact keep2G ((below_alloc W _).trans (below_drewn' _ _ 1)) k2 k3 | exact keep2G (below_then (And.left (by assumption)) (by assumption)) k2 k3)
      (first | (go_at_call 42; (with_reducible refine (hcall _ _ ?_ ?_).mono ?_); (exact Blk.new _ _ _); (exact (below_alloc W _).trans (below_drewn' _ _ 1)); rintro e w2 ⟨rfl, hd2⟩))
    have hw : Below W.heap.size W w2 := And.left (by assumption)
    go_wp2
    go_ret
    exact ⟨rfl, hw⟩

set_option maxHeartbeats 1000000 in
theorem spec_GroupObject (v : Int) (A : Option Addr) (n c : Nat) (zss : List (List Int)) (w : World) (ha : RR w A n zss) (hn : n ≤ 1099511627776) (hr : cells zss ≤ 1099511627776) (_ : n ≤ c) (_ : c ≤ 9223372036854775807) :
    Calls Tryz.prog 5 #[.agg #[.int .i64 v, .slice A n c]] w (RetOC w (if tB (GroupOk v zss) then 7 else 0) (if tB (GroupOk v zss) then v else 0) (if tB (GroupOk v zss) then zss else []) (if tB (GroupOk v zss) then 0 else 1)) := by
  have hb0 := below_alloc w (.cells #[.int .i64 v, .slice A n c] 30)
  have hb1 := below_then hb0 (below_alloc (w.alloc (.cells #[.int .i64 v, .slice A n c] 30)) (.cells #[.int .i64 0, .int .i64 0, .slice none 0 0] 27))
  have R : Blk ((w.alloc (.cells #[.int .i64 v, .slice A n c] 30)).alloc (.cells #[.int .i64 0, .int .i64 0, .slice none 0 0] 27)) (w.heap.size + 1) 27 #[.int .i64 0, .int .i64 0, .slice none 0 0] := by
    have := Blk.new (w.alloc (.cells #[.int .i64 v, .slice A n c] 30)) 27 #[.int .i64 0, .int .i64 0, .slice none 0 0]
    simpa using this
  have X := (Blk.new w 30 #[.int .i64 v, .slice A n c]).alloc (.cells #[.int .i64 0, .int .i64 0, .slice none 0 0] 27)
  have zs : ((w.alloc (.cells #[.int .i64 v, .slice A n c] 30)).alloc (.cells #[.int .i64 0, .int .i64 0, .slice none 0 0] 27)).heap.size = w.heap.size + 1 + 1 := by simp
  have hj := judgeGrp v zss w
  cases hh : tB (GroupOk v zss) with
  | true =>
    rw [if_pos rfl, if_pos rfl, if_pos rfl, if_pos rfl]
    rw [hh] at hj
    clear hh
    go_enter Tryz.func5, Tryz.ntmps5
    go_wp2_with fail
    refine (l30Make_yes 7 v A n c zss _ (ha.keep hb1) hn hr (fun g A n c W hb => hj g A n c W (below_then hb1 hb))).mono ?_
    rintro e w2 ⟨A2, n2, c2, rfl, ho, hb⟩
    have R2 := R.after hb
    have ho' : OR w2 (w.heap.size + 1 + 1) 44 2 A2 n2 c2 zss := by rw [← zs]; exact ho
    have hw := below_then hb1 hb
    clear ho hb ha hb1 hj R X zs hb0
    obtain ⟨z0, z1, z2⟩ := R2.cells3
    have f0 := R2.frozen 0
    have f1 := R2.frozen 1
    have f2 := R2.frozen 2
    go_wp2
    refine bodyPost_ret (v := .tuple #[.agg #[.int .i64 7, .int .i64 v, .slice A2 n2 c2], .int .i64 0]) (by simp [results, Tryz.results5, go_sem, z0, z1, z2]) rfl ⟨A2, n2, c2, rfl, ?_, ?_⟩
    · refine OR.more (B := w.heap.size + 1 + 1) ?_ (by omega)
      repeat (refine OR.setLow ?_ (by simp <;> omega) _)
      exact ho'
    · repeat (refine Below.setCell ?_ (by simp <;> omega) _)
      exact hw
  | false =>
    rw [if_neg (by simp), if_neg (by simp), if_neg (by simp), if_neg (by simp)]
    rw [hh] at hj
    clear hh
    go_enter Tryz.func5, Tryz.ntmps5
    go_wp2_with fail
    refine (l30Make_no 7 v A n c zss _ (ha.keep hb1) hn hr (fun g A n c W hb => hj g A n c W (below_then hb1 hb))).mono ?_
    rintro e w2 ⟨A2, n2, c2, rfl, ho, hb⟩
    have R2 := R.after hb
    have ho' : OR w2 (w.heap.size + 1 + 1) 44 2 A2 n2 c2 [] := by rw [← zs]; exact ho
    have hw := below_then hb1 hb
    clear ho hb ha hb1 hj R X zs hb0
    obtain ⟨z0, z1, z2⟩ := R2.cells3
    have f0 := R2.frozen 0
    have f1 := R2.frozen 1
    have f2 := R2.frozen 2
    go_wp2
    refine bodyPost_ret (v := .tuple #[.agg #[.int .i64 0, .int .i64 0, .slice A2 n2 c2], .int .i64 1]) (by simp [results, Tryz.results5, go_sem, z0, z1, z2]) rfl ⟨A2, n2, c2, rfl, ?_, ?_⟩
    · refine OR.more (B := w.heap.size + 1 + 1) ?_ (by omega)
      repeat (refine OR.setLow ?_ (by simp <;> omega) _)
      exact ho'
    · repeat (refine Below.setCell ?_ (by simp <;> omega) _)
      exact hw
set_option maxHeartbeats 1000000 in
theorem impl_GroupObject (v : Int) (A : Option Addr) (n c : Nat) (zss : List (List Int)) (w : World) (ha : RR w A n zss) (hn : n ≤ 1099511627776) (hr : cells zss ≤ 1099511627776) (_ : n ≤ c) (_ : c ≤ 9223372036854775807) :
    Calls Tryz.prog 7 #[.agg #[.int .i64 v, .slice A n c]] w (RetOC w (if tB (GroupOk v zss) then 7 else 0) (if tB (GroupOk v zss) then v else 0) (if tB (GroupOk v zss) then zss else []) (if tB (GroupOk v zss) then 0 else 1)) := by
  have hb0 := below_alloc w (.cells #[.int .i64 v, .slice A n c] 30)
  have hb1 := below_then hb0 (below_alloc (w.alloc (.cells #[.int .i64 v, .slice A n c] 30)) (.cells #[.int .i64 0, .int .i64 0, .slice none 0 0] 27))
  have R : Blk ((w.alloc (.cells #[.int .i64 v, .slice A n c] 30)).alloc (.cells #[.int .i64 0, .int .i64 0, .slice none 0 0] 27)) (w.heap.size + 1) 27 #[.int .i64 0, .int .i64 0, .slice none 0 0] := by
    have := Blk.new (w.alloc (.cells #[.int .i64 v, .slice A n c] 30)) 27 #[.int .i64 0, .int .i64 0, .slice none 0 0]
    simpa using this
  have X := (Blk.new w 30 #[.int .i64 v, .slice A n c]).alloc (.cells #[.int .i64 0, .int .i64 0, .slice none 0 0] 27)
  have zs : ((w.alloc (.cells #[.int .i64 v, .slice A n c] 30)).alloc (.cells #[.int .i64 0, .int .i64 0, .slice none 0 0] 27)).heap.size = w.heap.size + 1 + 1 := by simp
  have hv := validGroup_any v A n c zss _ (ha.keep hb1) hn hr
  cases hh : tB (GroupOk v zss) with
  | true =>
    rw [if_pos rfl, if_pos rfl, if_pos rfl, if_pos rfl]
    rw [hh] at hv
    clear hh
    go_enter Tryz.func7, Tryz.ntmps7
    go_wp2_with fail
    refine hv.mono ?_
    rintro e w1 ⟨rfl, hb⟩
    have R1 := R.after hb
    have X1 := X.after hb
    have hw := below_then hb1 hb
    have z := hb.size
    rw [zs] at z
    clear hb hb1 hv R X zs hb0
    obtain ⟨x0, x1⟩ := X1.cells2
    go_wp2_with fail
    refine (copyObject_any 7 v A n c zss _ (ha.keep hw) hn hr).mono ?_
    rintro e w2 ⟨A2, n2, c2, rfl, ho, hb⟩
    have R2 := R1.after hb
    have ho' : OR w2 (w.heap.size + 1 + 1) 44 2 A2 n2 c2 zss := ho.more z
    have hw2 := below_then hw hb
    clear ho hb ha hw R1 X1 x0 x1
    obtain ⟨z0, z1, z2⟩ := R2.cells3
    have f0 := R2.frozen 0
    have f1 := R2.frozen 1
    have f2 := R2.frozen 2
    go_wp2
    refine bodyPost_ret (v := .tuple #[.agg #[.int .i64 7, .int .i64 v, .slice A2 n2 c2], .int .i64 0]) (by simp [results, Tryz.results7, go_sem, z0, z1, z2]) rfl ⟨A2, n2, c2, rfl, ?_, ?_⟩
    · refine OR.more (B := w.heap.size + 1 + 1) ?_ (by omega)
      repeat (refine OR.setLow ?_ (by simp <;> omega) _)
      exact ho'
    · repeat (refine Below.setCell ?_ (by simp <;> omega) _)
      exact hw2
  | false =>
    rw [if_neg (by simp), if_neg (by simp), if_neg (by simp), if_neg (by simp)]
    rw [hh] at hv
    clear hh
    go_enter Tryz.func7, Tryz.ntmps7
    go_wp2_with fail
    refine hv.mono ?_
    rintro e w1 ⟨rfl, hb⟩
    have R1 := R.after hb
    have X1 := X.after hb
    have hw := below_then hb1 hb
    have z := hb.size
    rw [zs] at z
    clear hb hb1 hv R X zs hb0
    have R2 := R1
    clear R1 X1 ha
    obtain ⟨z0, z1, z2⟩ := R2.cells3
    have f0 := R2.frozen 0
    have f1 := R2.frozen 1
    have f2 := R2.frozen 2
    go_wp2
    refine bodyPost_ret (v := .tuple #[.agg #[.int .i64 0, .int .i64 0, .slice none 0 0], .int .i64 1]) (by simp [results, Tryz.results7, go_sem, z0, z1, z2]) rfl ⟨none, 0, 0, rfl, OR.nil_ _ _ (by decide), ?_⟩
    repeat (refine Below.setCell ?_ (by simp <;> omega) _)
    exact hw

/-- the argument's variable and the copy's, behind the copy's rows -/
structure AStGroup (w : World) (g1 g6 : Nat) (v : Int) (A A3 : Option Addr) (n c n3 c3 : Nat) (zss : List (List Int)) (w' : World) : Prop where
  p1 : Blk w' g1 24 #[.int .i64 v, .slice A n c]
  p6 : Blk w' g6 30 #[.int .i64 v, .slice A3 n3 c3]
  r3 : RR w' A3 n3 zss
theorem AStGroup.step {w w' w'' : World} {g1 g6 : Nat} {v : Int} {A A3 : Option Addr} {n c n3 c3 : Nat} {zss : List (List Int)} (h : AStGroup w g1 g6 v A A3 n c n3 c3 zss w') (hb : Below w'.heap.size w' w'') : AStGroup w g1 g6 v A A3 n c n3 c3 zss w'' :=
  ⟨h.p1.after hb, h.p6.after hb, h.r3.keep hb⟩
theorem AStGroup.full {w w' : World} {g1 g6 : Nat} {v : Int} {A A3 : Option Addr} {n c n3 c3 : Nat} {zss : List (List Int)} (h : AStGroup w g1 g6 v A A3 n c n3 c3 zss w') (hb : Below w.heap.size w w') :
    (AStGroup w g1 g6 v A A3 n c n3 c3 zss w' ∧ Below w.heap.size w w') ∧ w'.cell? ⟨g1, 0, none⟩ = some (.int .i64 v) ∧ w'.cell? ⟨g1, 1, none⟩ = some (.slice A n c) ∧ w'.cell? ⟨g6, 0, none⟩ = some (.int .i64 v) ∧ w'.cell? ⟨g6, 1, none⟩ = some (.slice A3 n3 c3) :=
  ⟨⟨h, hb⟩, h.p1.cells2.1, h.p1.cells2.2, h.p6.cells2.1, h.p6.cells2.2⟩
set_option maxRecDepth 100000 in
set_option maxHeartbeats 4000000 in
theorem law_GroupObject_ok (v : Int) (A : Option Addr) (n c : Nat) (zss : List (List Int)) (w : World) (ha : RR w A n zss) (hn : n ≤ c) (hc : c ≤ 9223372036854775807) (hs : (bulk zss : Int) ≤ 1048576)
    (K S C : Int) (Z : List (List Int)) (hz : Z.length ≤ 1048576 ∧ cells Z ≤ 1048576)
    (hspec : ∀ (A : Option Addr) (n c : Nat) (w : World), RR w A n zss → n ≤ 1099511627776 → n ≤ c → c ≤ 9223372036854775807 → Calls Tryz.prog 5 #[.agg #[.int .i64 v, .slice A n c]] w (RetOC w K S Z C))
    (himpl : ∀ (A : Option Addr) (n c : Nat) (w : World), RR w A n zss → n ≤ 1099511627776 → n ≤ c → c ≤ 9223372036854775807 → Calls Tryz.prog 7 #[.agg #[.int .i64 v, .slice A n c]] w (RetOC w K S Z C)) :
    Calls Tryz.prog 3 #[.agg #[.int .i64 v, .slice A n c]] w fun e w' => e = .returned (.bool true) ∧ Below w.heap.size w w' := by
  have hla := Lib.hid ha.len
  have hbc := bulk_cells zss
  obtain ⟨bz1, bz2⟩ : n ≤ 1048576 ∧ cells zss ≤ 1048576 := by have := hla.out; omega
  have hlens : lens zss n ≤ 1099511627776 := by have := bulk_eq ha; omega
  have E1 := Lib.hid (show szF 1048576 (bulk zss) = 1048576 - bulk zss by simp [szF, hs])
  obtain ⟨hz1, hz2⟩ := hz
  have hbp : (0 : Int) ≤ 1048576 - bulk zss := by omega
  clear hbc
  generalize hbk : (1048576 - (bulk zss : Int)) = bk at *
  have HB := Lib.hid hbk; clear hbk
  have p1 := Blk.new w 24 #[.int .i64 v, .slice A n c]
  have b1 := below_alloc w (.cells #[.int .i64 v, .slice A n c] 24)
  go_enter Tryz.func3, Tryz.ntmps3
  go_wp2_with fail
  refine (szGroup_any v 1048576 A n c zss _ (ha.keep b1) (by omega) (by omega) (by omega)).mono ?_
  rintro e w0 ⟨rfl, hb0⟩
  rw [E1.out]
  have q1 := p1.after hb0
  have b0 := below_then b1 hb0
  clear p1 b1 hb0
  obtain ⟨u0, u1⟩ := q1.cells2
  go_wp2_with fail
  refine (toGroup_any v A n c zss _ (ha.keep b0) (by omega) hlens).mono ?_
  rintro e w1 ⟨A1, n1, c1, rfl, ho1, hb1⟩
  have k1 : n1 ≤ 1048576 := by have := ho1.len; have := hla.out; omega
  have q2 := q1.after hb1
  have b1 := below_then b0 hb1
  clear q1 b0 hb1 u0 u1
  go_wp2_with fail
  refine (hspec A1 n1 c1 _ ho1.reads (by omega) ho1.os_cap.1 ho1.os_cap.2).mono ?_
  rintro e w2 ⟨A2, n2, c2, rfl, ho2, hb2⟩
  have bw2 := below_then b1 hb2
  have r2 := ho2.reads
  have k2 : n2 ≤ 1048576 := by have := ho2.len; omega
  have x4 := Blk.new w2 27 #[.int .i64 K, .int .i64 S, .slice A2 n2 c2]
  have b2 := below_alloc w2 (.cells #[.int .i64 K, .int .i64 S, .slice A2 n2 c2] 27)
  have q3 := (q2.after hb2).after b2
  clear ho1 q2 b1 ho2 hb2
  obtain ⟨u0, u1⟩ := q3.cells2
  go_wp2_with fail
  refine (toGroup_any v A n c zss _ (ha.keep (below_then bw2 b2)) (by omega) hlens).mono ?_
  rintro e w3 ⟨A3, n3, c3, rfl, ho3, hb3⟩
  have k3 : n3 ≤ 1048576 := by have := ho3.len; have := hla.out; omega
  have k3' := ho3.os_cap
  have od3 := ho3.bound
  have e3 : (w2.alloc (.cells #[.int .i64 K, .int .i64 S, .slice A2 n2 c2] 27)).heap.size = w2.heap.size + 1 := by simp
  rw [e3] at od3
  have b3 := below_then b2 hb3
  have x4' := x4.after hb3
  have z3 := hb3.size
  rw [e3] at z3
  have b6 := below_alloc w3 (.cells #[.int .i64 v, .slice A3 n3 c3] 30)
  have z6 : (w3.alloc (.cells #[.int .i64 v, .slice A3 n3 c3] 30)).heap.size = w3.heap.size + 1 := by simp
  have p6 := Blk.new w3 30 #[.int .i64 v, .slice A3 n3 c3]
  have q4 := (q3.after hb3).after b6
  have od3' := od3.below b6
  have b3' := below_then b3 b6
  have x4 := x4'.after b6
  have hg1 := q3.lt
  rw [e3] at hg1
  clear ho3 hb3 x4' b2 b3 e3 q3 od3 u0 u1
  obtain ⟨u0, u1⟩ := p6.cells2
  go_wp2_with fail
  refine (himpl A3 n3 c3 _ od3'.reads (by omega) k3'.1 k3'.2).mono ?_
  rintro e w4 ⟨A4, n4, c4, rfl, ho4, hb4⟩
  have k4 : n4 ≤ 1048576 := by have := ho4.len; omega
  have od4 := ho4.bound
  rw [z6] at od4
  have b4 := below_then b3' hb4
  have b7 := below_alloc w4 (.cells #[.int .i64 K, .int .i64 S, .slice A4 n4 c4] 27)
  have z4 := hb4.size
  rw [z6] at z4
  have L0 : LSt w w2 (w4.alloc (.cells #[.int .i64 K, .int .i64 S, .slice A4 n4 c4] 27)) 27 K S Z Z w2.heap.size w4.heap.size (w3.heap.size + 1) w4.heap.size A2 A4 n2 c2 n4 c4 :=
    ⟨bw2, below_then b4 b7, r2, (x4.after hb4).after b7, Blk.new _ _ _, od4.below b7, by omega⟩
  have o3 := (od3'.below hb4).below b7
  have M0 : AStGroup w w.heap.size w3.heap.size v A A3 n c n3 c3 zss (w4.alloc (.cells #[.int .i64 K, .int .i64 S, .slice A4 n4 c4] 27)) := ⟨(q4.after hb4).after b7, (p6.after hb4).after b7, o3.reads⟩
  clear ho4 hb4 od4 od3' b4 b3' x4 bw2 r2 q4 p6 b6 b7 z6 u0 u1
  generalize w3.heap.size = s3 at *
  obtain ⟨v1, v2⟩ := L0.cells
  go_wp2_with fail
  refine (eqObject_same K S A4 A2 n4 n2 c4 c2 Z _ L0.o4.reads L0.rd (by omega) (by omega)).mono ?_
  rintro e w5 ⟨rfl, hb5⟩
  have L1 := L0.step hb5
  have M1 := M0.step hb5
  have o5 := o3.below hb5
  have z5 := hb5.size
  simp at z5
  clear L0 M0 o3 hb5 v1 v2
  have bb5 := L1.below
  go_wp2_with fail
  go_region_held3 (fun w' => (AStGroup w w.heap.size s3 v A A3 n c n3 c3 zss w' ∧ Below w.heap.size w w') ∧ w'.cell? ⟨w.heap.size, 0, none⟩ = some (.int .i64 v) ∧ w'.cell? ⟨w.heap.size, 1, none⟩ = some (.slice A n c) ∧ w'.cell? ⟨s3, 0, none⟩ = some (.int .i64 v) ∧ w'.cell? ⟨s3, 1, none⟩ = some (.slice A3 n3 c3))
    (first | exact (M1.step (below_drewn _ 1)).full (bb5.trans ((below_drewn _ 1).mono bb5.size)) | exact (AStGroup.step (And.left (And.left (by assumption))) (by assumption)).full (below_then (And.right (And.left (by assumption))) (by assumption)))
    (first
      | (go_at_call 6; (with_reducible refine (toGroup_any v A n c zss _ ?_ (by omega) hlens).mono ?_); (exact ha.keep (And.right (And.left (by assumption)))); rintro e w6 ⟨A6, n6, c6, rfl, ho6, hb6⟩)
      | (go_at_call 9; (with_reducible refine (eqGroup_same v A3 A6 n3 n6 c3 c6 zss _ ?_ ?_ ?_ ?_).mono ?_); (exact AStGroup.r3 (And.left (And.left (by assumption)))); (exact ho6.reads); (omega); (have := ho6.len; have := hla.out; omega); rintro e w7 ⟨rfl, hb7⟩))
  have hh7 : (AStGroup w w.heap.size s3 v A A3 n c n3 c3 zss w7 ∧ Below w.heap.size w w7) := And.left (by assumption)
  have L3 := (L1.step ((below_drewn w5 1).trans (hb6.mono (Nat.le_refl _)))).step hb7
  have M3 := hh7.1
  have o7 := (o5.below ((below_drewn w5 1).trans (hb6.mono (Nat.le_refl _)))).below hb7
  clear L1 M1 o5 hb6 hb7 hh7 ho6 bb5
  obtain ⟨u0, u1⟩ := M3.p6.cells2
  go_wp2_with fail
  refine (markGroup_any v _ _ A3 n3 c3 1 zss _ o7 (by omega) (by omega)).mono ?_
  rintro e w8 ⟨rfl, _, hm8⟩
  have L4 := L3.mid hm8 (by omega) (by omega) (by omega) (by omega)
  have M4 := M3.p1.mid hm8 (by omega)
  clear L3 o7 hm8 M3 u0 u1
  obtain ⟨v1, v2⟩ := L4.cells
  go_wp2_with fail
  refine (eqObject_same K S A4 A2 n4 n2 c4 c2 Z _ L4.o4.reads L4.rd (by omega) (by omega)).mono ?_
  rintro e w9 ⟨rfl, hb9⟩
  have L5 := L4.step hb9
  have M5 := M4.after hb9
  clear L4 hb9 v1 v2 M4
  obtain ⟨v1, v2⟩ := L5.cells
  go_wp2_with fail
  refine (markObject_any K S _ _ A4 n4 c4 1 Z _ L5.o4 (by omega) (by omega)).mono ?_
  rintro e w10 ⟨rfl, ho10, hm10⟩
  have L6 := L5.marked hm10 ho10 (by omega) (by omega)
  have M6 := M5.mid hm10 (by omega)
  clear L5 ho10 hm10 v1 v2 M5
  obtain ⟨v1, v2⟩ := L6.cells
  go_wp2_with fail
  refine (heldObject_any K S A4 n4 c4 1 Z _ L6.o4.reads (by omega) (by omega)).mono ?_
  rintro e w11 ⟨rfl, hb11⟩
  have L7 := L6.step hb11
  have M7 := M6.after hb11
  clear L6 hb11 v1 v2 M6
  obtain ⟨u0, u1⟩ := M7.cells2
  go_wp2_with fail
  refine (toGroup_any v A n c zss _ (ha.keep L7.below) (by omega) hlens).mono ?_
  rintro e w12 ⟨A12, n12, c12, rfl, ho12, hb12⟩
  have k12 : n12 ≤ 1048576 := by have := ho12.len; have := hla.out; omega
  have L8 := L7.step hb12
  clear L7 hb12 M7 u0 u1
  go_wp2_with fail
  refine (himpl A12 n12 c12 _ ho12.reads (by omega) ho12.os_cap.1 ho12.os_cap.2).mono ?_
  rintro e w13 ⟨A13, n13, c13, rfl, ho13, hb13⟩
  have k13 : n13 ≤ 1048576 := by have := ho13.len; omega
  have L9 := (L8.step hb13).step (below_alloc w13 (.cells #[.int .i64 K, .int .i64 S, .slice A13 n13 c13] 27))
  have X13 := (Blk.new w13 27 #[.int .i64 K, .int .i64 S, .slice A13 n13 c13]).cells3
  have r13 := ho13.reads.keep (below_alloc w13 (.cells #[.int .i64 K, .int .i64 S, .slice A13 n13 c13] 27))
  clear L8 hb13 ho13 ho12
  obtain ⟨v1, v2⟩ := L9.cells
  go_wp2_with fail
  refine (eqObject_same K S A13 A2 n13 n2 c13 c2 Z _ r13 L9.rd (by omega) (by omega)).mono ?_
  rintro e w14 ⟨rfl, hb14⟩
  have L10 := L9.step hb14
  clear L9 hb14 v1 v2 X13 r13
  obtain ⟨v1, v2⟩ := L10.cells
  go_wp2_with fail
  refine (heldObject_any K S A4 n4 c4 1 Z _ L10.o4.reads (by omega) (by omega)).mono ?_
  rintro e w15 ⟨rfl, hb15⟩
  have L11 := L10.step hb15
  clear L10 hb15 v1 v2
  go_wp2_with fail
  go_ret
  exact ⟨rfl, L11.below⟩

set_option maxHeartbeats 1000000 in
theorem law_GroupObject (v : Int) (A : Option Addr) (n c : Nat) (zss : List (List Int)) (w : World) (ha : RR w A n zss) (hn : n ≤ c) (hc : c ≤ 9223372036854775807) :
    Calls Tryz.prog 3 #[.agg #[.int .i64 v, .slice A n c]] w fun e w' => e = .returned (.bool true) ∧ Below w.heap.size w w' := by
  by_cases hs : (bulk zss : Int) ≤ 1048576
  · have hbc := bulk_cells zss
    exact law_GroupObject_ok v A n c zss w ha hn hc hs (if tB (GroupOk v zss) then 7 else 0) (if tB (GroupOk v zss) then v else 0) (if tB (GroupOk v zss) then 0 else 1) (if tB (GroupOk v zss) then zss else []) (by cases tB (GroupOk v zss) <;> simp [cells_nil7] <;> omega)
      (fun A' n' c' w' ha' h1 h2 h3 => spec_GroupObject v A' n' c' zss w' ha' h1 (by omega) h2 h3) (fun A' n' c' w' ha' h1 h2 h3 => impl_GroupObject v A' n' c' zss w' ha' h1 (by omega) h2 h3)
  · have E1 := Lib.hid (show szF 1048576 (bulk zss) = -1 by simp [szF, hs])
    clear hs
    have b1 := below_alloc w (.cells #[.int .i64 v, .slice A n c] 24)
    go_enter Tryz.func3, Tryz.ntmps3
    go_wp2_with fail
    refine (szGroup_any v 1048576 A n c zss _ (ha.keep b1) (by omega) (by omega) (by omega)).mono ?_
    rintro e w0 ⟨rfl, hb0⟩
    rw [E1.out]
    go_wp2
    go_ret
    exact ⟨rfl, below_then b1 hb0⟩

end Go.Proofs.YtkeeneedaekfoaaGreat
