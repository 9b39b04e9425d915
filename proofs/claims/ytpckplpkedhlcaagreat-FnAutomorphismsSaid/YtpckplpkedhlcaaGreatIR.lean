/- The law FnAutomorphisms: for every input it returns true. No condition beyond those stated. -/
import Derived.Test.YtpckplpkedhlcaaGreatIP
import Derived.Test.YtpckplpkedhlcaaGreatIQ
import Derived.Test.YtpckplpkedhlcaaGreatGC
set_option linter.unusedVariables false
set_option linter.unusedSimpArgs false
namespace Go.Proofs.YtpckplpkedhlcaaGreat
open Go.RowKit

theorem sameG_aut {cs : List Int} {es : List Ed} (he : EdgesOk cs.length es) {p : List Int} (hp : Perm p) (hl : p.length = cs.length) : sameG (relC cs p) (relE es p) cs es = true ↔ Aut cs es p := by
  rw [← aut_iff he hp hl]
  unfold sameG
  simp
set_option maxHeartbeats 400000 in
theorem implCompareLists_any (A B : Option Addr) (n m c d : Nat) (xs ys : List Int) (w : World) (ha : RI w A n xs) (hb : RI w B m ys) (hn : n ≤ 9223372036854775807) (hm : m ≤ 9223372036854775807) :
    Calls Tryz.prog 13 #[.slice A n c, .slice B m d] w (fun e w' => e = .returned (.int .i64 (cmpL xs ys)) ∧ w = w') := by
  have hbd := cmpL_bd xs ys
  go_enter Tryz.func13, Tryz.ntmps13
  go_wp2_with fail
  refine (slicesCompare_any A B n m c d xs ys w ha hb hn hm).mono ?_
  rintro e w' ⟨rfl, rfl⟩
  go_wp2
  go_ret
  exact ⟨rfl, rfl⟩
set_option maxRecDepth 100000 in
set_option maxHeartbeats 800000 in
/-- the end of the law, all lists at hand -/
theorem law_Automorphisms_ok (A0 : Option Addr) (n0 c0 : Nat) (bs : List Int) (A1 : Option Addr) (n1 c1 : Nat) (ys : List Int) (w : World) (ha : RS EByte w A0 n0 bs) (hn0 : n0 ≤ 1048576) (hb : RS EByte w A1 n1 ys) (hn1 : n1 ≤ 1048576) :
    Calls Tryz.prog 3 #[.slice A0 n0 c0, .slice A1 n1 c1] w fun e w' => e = .returned (.bool true) ∧ Below w.heap.size w w' := by
  go_enter Tryz.func3, Tryz.ntmps3
  go_wp2_with fail
  refine (b10Long_no A0 n0 c0 _ hn0).mono ?_
  rintro e w' ⟨rfl, rfl⟩
  go_wp2_with fail
  refine (b10Long_no A1 n1 c1 _ hn1).mono ?_
  rintro e w' ⟨rfl, rfl⟩
  go_wp2_with fail
  refine (drawAuts_any A0 n0 c0 bs w ha (by omega)).mono ?_
  rintro e w1 ⟨A, n, c, F, m, d, cs, es, b, rfl, hG, hbi, hb1, hn, hm⟩
  have hb3 := below_alloc w1 (.cells #[.slice A n c, .slice F m d] 27)
  have X := Blk.new w1 27 #[.slice A n c, .slice F m d]
  have hG := hG.keep hb3
  have hw3 := hb1.trans (hb3.mono hb1.size)
  clear hb3 hb1 ha hbi
  obtain ⟨x0, x1⟩ := X.cells2
  go_wp2_with fail
  generalize w1.alloc (.cells #[.slice A n c, .slice F m d] 27) = w3 at *
  generalize w1.heap.size = x at *
  refine (impl_AutomorphismsOf A n c F m d cs es b w3 hG (by omega) (by omega)).mono ?_
  rintro e w4 ⟨LA, ln, lc, rfl, hol, hb4⟩
  have X := X.after hb4
  have hG := hG.keep hb4
  have hw4 := hw3.trans (hb4.mono hw3.size)
  clear hb4 x0 x1
  obtain ⟨x0, x1⟩ := X.cells2
  go_wp2_with fail
  refine (impl_CountAutomorphisms A n c F m d cs es b w4 hG (by omega) (by omega)).mono ?_
  rintro e w5 ⟨rfl, hb5⟩
  have X := X.after hb5
  have hG := hG.keep hb5
  have hol := hol.below hb5
  have hw5 := hw4.trans (hb5.mono hw4.size)
  clear hb5 x0 x1
  obtain ⟨x0, x1⟩ := X.cells2
  go_wp2_with fail
  refine (impl_VertexOrbits A n c F m d cs es b w5 hG (by omega) (by omega)).mono ?_
  rintro e w6 ⟨OA, on, oc, rfl, hoo, hb6⟩
  have X := X.after hb6
  have hG := hG.keep hb6
  have hol := hol.below hb6
  have hw6 := hw5.trans (hb6.mono hw5.size)
  clear hb6 x0 x1
  obtain ⟨x0, x1⟩ := X.cells2
  rcases codeP_cases cs es b with h0 | ⟨h0, h1⟩
  · obtain ⟨s1, s2, s3⟩ := codeP_ok h0
    by_cases hk : 720 < (runP cs es b.toNat).best.length
    · obtain ⟨r1, r2⟩ := autC_big h0 hk
      rw [r2] at hol
      rw [r1]
      have hln := hol.len
      obtain rfl : ln = 0 := by simpa using hln.symm
      rw [h0]
      have hc : countP' cs es b = ((runP cs es b.toNat).best.length : Int) := by rw [countP', if_pos h0]
      rw [hc]
      have hk2 : ((runP cs es b.toNat).best.length : Int) > 720 := by omega
      generalize (runP cs es b.toNat).best.length = q at *
      clear hc r1 r2 hln s1 s2 s3 h0 hk
      go_wp2
      go_ret
      exact ⟨rfl, hw6⟩
    · obtain ⟨r1, r2⟩ := autC_ok h0 hk
      rw [r2] at hol
      rw [r1, h0]
      have he := graph_edges s2
      have hlen := auts_len he s1
      have hgrp := fun h1 h2 => auts_group he s1 h1 h2 hk
      have hmem := auts_mem he s1
      have hperm := auts_perm he s1
      have hor : orbR cs es b = orbT (setG cmpL (autL (runP cs es b.toNat).best)) cs.length := by
        rw [orbR, if_pos h0]; exact (orbT_perm (auts_list he s1) _).symm
      have hstr : StrictL cmpL (setG cmpL (autL (runP cs es b.toNat).best)) := setG_strict cmpL_ord _
      have hpos : 0 < (runP cs es b.toNat).best.length := List.length_pos_iff.2 (runP_best s1)
      rw [show countP' cs es b = ((setG cmpL (autL (runP cs es b.toNat).best)).length : Int) by rw [countP', if_pos h0, hlen]]
      rw [hor] at hoo
      rw [← hlen] at hpos hk
      have hcl : cs.length = n := hG.ri.len
      have h64 := s2.clen
      rw [hcl] at hgrp hperm hoo he h64
      generalize setG cmpL (autL (runP cs es b.toNat).best) = L at *
      have hll := hol.len
      obtain rfl : L.length = ln := hll
      clear hlen hor r1 r2 h0 s1 s3
      have hsame : ∀ (p : List Int), Perm p → p.length = n → (sameG (relC cs p) (relE es p) cs es = true ↔ p ∈ L) := fun p hp hl => by
        rw [sameG_aut (by rw [hcl]; exact he) hp (by rw [hcl]; exact hl)]
        exact (hmem p).symm
      have HS := Lib.hid (fun (k : Nat) (hk : k < L.length) => show sameG (relC cs (row L k)) (relE es (row L k)) cs es = true ∧ Perm (row L k) ∧ (row L k).length = n from by
        have hm : row L k ∈ L := by rw [row_get hk]; exact List.getElem_mem hk
        have hp := hperm _ hm
        exact ⟨(hsame _ hp.2 hp.1).2 hm, hp.2, hp.1⟩)
      have HQ := Lib.hid (fun (k : Nat) (hk : k < L.length) (h0 : 0 < k) => show cmpL (row L (k - 1)) (row L k) = -1 from by
        have h1 := strict_riseG hstr (k - 1) (by omega)
        rw [show k - 1 + 1 = k from by omega] at h1
        have := cmpL_bd (row L (k - 1)) (row L k)
        omega)
      have HM := Lib.hid hsame
      have HG := Lib.hid hgrp
      have HOK := Lib.hid s2
      have HCL := Lib.hid hcl
      clear hsame hmem hperm hstr hgrp s2 hcl he
      have hr6 := hol.reads
      have hlb : L.length ≤ 720 := by omega
      go_wp2
      go_loopw [14] (fun i wr => ∃ k : Nat, k ≤ L.length ∧ i = .int .i64 k ∧ Below w6.heap.size w6 wr) (fun i _ => L.length - (intOf i).toNat)
      case atStart => exact ⟨0, Nat.zero_le _, rfl, Below.refl _ _⟩
      case round =>
        clear x0 x1
        obtain ⟨k, hkl, rfl, hbw⟩ := hrel
        have hri := hr6.keep hbw
        have X1 := X.after hbw
        have hG1 := hG.keep hbw
        have hwr := hw6.trans (hbw.mono hw6.size)
        obtain ⟨x0, x1⟩ := X1.cells2
        by_cases hlt : k < L.length
        · obtain ⟨t1, t2, t3⟩ := HS.out k hlt
          obtain ⟨ad, B1, q1, r1, hLA, hca, hq1, hr1, hri1⟩ := hri.get hlt
          obtain rfl : n = q1 := by rw [← hri1.len]; exact t3.symm
          have q0 := cell_bel x0
          have q1 := cell_bel x1
          have q2 := cell_bel hca
          have ki : ∀ P : Bel wr, Calls Tryz.prog 12 #[.agg #[.slice A n c, .slice F m d], .slice B1 n r1] P.w _ := fun P => (by
            have := isAutomorphism_any A n c F m d cs es B1 r1 (row L k) P.w (hG1.keep P.h) (hri1.keep P.h) t2 (by omega) (by omega) HOK.out
            rw [t1] at this
            exact this)
          have sk : IntKind.i64.wrap ((k : Int) - 1) = (k : Int) - 1 := IntWalk.i64_in _ (by omega)
          by_cases hk0 : 0 < k
          · have hq := HQ.out k hlt hk0
            obtain ⟨ad', B2, l2, r2, hLA', hca', hl2, hr2, hri2⟩ := hri.get (k := k - 1) (by omega)
            rw [hLA] at hLA'
            cases hLA'
            subst hLA
            have q3 := cell_bel hca'
            have kc : ∀ P : Bel wr, Calls Tryz.prog 13 #[.slice B2 l2 r2, .slice B1 n r1] P.w (fun e w' => e = .returned (.int .i64 (-1)) ∧ Below P.w.heap.size P.w w') := fun P => (by
              have := implCompareLists_any B2 B1 l2 n r2 r1 _ _ P.w (hri2.keep P.h) (hri1.keep P.h) (by omega) (by omega)
              rw [hq] at this
              exact this.mono fun _ _ h => ⟨h.1, h.2 ▸ Below.refl _ _⟩)
            have e0 : 0 ≤ (k : Int) - 1 := by omega
            have e1 : (k : Int) - 1 < L.length := by omega
            have e2 : ((k : Int) - 1).toNat = k - 1 := by omega
            have e3 : decide ((k : Int) > 0) = true := by simp; omega
            have HBW := Lib.hid hbw
            clear hbw hri hG1 hca hca' x0 x1 hq
            go_wp2
            refine wp_region_bel (by kernel_rfl) (by kernel_rfl) ?_
            repeat (first | go_big_quiet_step ((first | (go_at_call 12; with_reducible exact Calls.bel (ki _)) | (go_at_call 13; with_reducible exact Calls.bel (kc _)))) | quiet_step ((first | (go_at_call 12; with_reducible exact Calls.bel (ki _)) | (go_at_call 13; with_reducible exact Calls.bel (kc _)))))
            refine wpQuiet_nil ?_
            rintro _ ⟨⟨w7, hb7⟩, rfl⟩
            have hw7 := HBW.out.trans (hb7.mono HBW.out.size)
            clear hb7 q0 q1 q2 q3 e0 e1 e2 e3 sk ki kc
            go_wp2
            go_roundw
            case rel => exact ⟨k + 1, by omega, by go_num, hw7⟩
            case measure => simp [intOf]; omega
          · have e3 : decide ((k : Int) > 0) = false := by simp; omega
            subst hLA
            have HBW := Lib.hid hbw
            clear hbw hri hG1 hca x0 x1
            go_wp2
            refine wp_region_bel (by kernel_rfl) (by kernel_rfl) ?_
            repeat (first | go_big_quiet_step ((first | (go_at_call 12; with_reducible exact Calls.bel (ki _)))) | quiet_step ((first | (go_at_call 12; with_reducible exact Calls.bel (ki _)))))
            refine wpQuiet_nil ?_
            rintro _ ⟨⟨w7, hb7⟩, rfl⟩
            have hw7 := HBW.out.trans (hb7.mono HBW.out.size)
            clear hb7 q0 q1 q2 e3 sk ki
            go_wp2
            go_roundw
            case rel => exact ⟨k + 1, by omega, by go_num, hw7⟩
            case measure => simp [intOf]; omega
        · clear HQ HS
          have hpm := b10Perm_any A1 n1 c1 n ys wr (EBytes.keep hb hwr) (by omega) (by omega)
          go_wp2_with fail
          refine hpm.mono ?_
          rintro e w8 ⟨P, cP, p, rfl, hop, hlp, hpp, hb8⟩
          have X2 := X1.after hb8
          have hw8 := hbw.trans (hb8.mono hbw.size)
          have hwr8 := hwr.trans (hb8.mono hwr.size)
          have hG8 := hG.keep hw8
          clear hpm hb8 x0 x1
          obtain ⟨x0, x1⟩ := X2.cells2
          have hia := isAutomorphism_any A n c F m d cs es P cP p w8 hG8 hop.reads hpp (by omega) (by omega) HOK.out
          have hiff := HM.out p hpp hlp
          have HIF := Lib.hid hiff
          clear hiff
          generalize sameG (relC cs p) (relE es p) cs es = u at *
          go_wp2_with fail
          refine hia.mono ?_
          rintro e w9 ⟨rfl, hb9⟩
          have X3 := X2.after hb9
          have hw9 := hw8.trans (hb9.mono hw8.size)
          have hwr9 := hwr8.trans (hb9.mono hwr8.size)
          have hop9 := hop.below hb9
          clear hia hb9 x0 x1
          obtain ⟨x0, x1⟩ := X3.cells2
          have hix := b10Index_any LA L.length lc L P n cP p w9 (hr6.keep hw9) hop9.reads (by omega) (by omega)
          go_wp2_with fail
          refine hix.mono ?_
          rintro e w10 ⟨k2, rfl, hd10, hcase⟩
          have hb10 := hd10.below
          have X4 := X3.after hb10
          have hw10 := hw9.trans (hb10.mono hw9.size)
          have hwr10 := hwr9.trans (hb10.mono hwr9.size)
          clear hix hd10 hb10 x0 x1 hop9 hop
          obtain ⟨x0, x1⟩ := X4.cells2
          have hku : (u = true ∧ 0 ≤ k2) ∨ (u = false ∧ k2 = -1) := by
            rcases hcase with ⟨h1, h2⟩ | ⟨h1, h2⟩
            · exact .inl ⟨HIF.out.2 h2, h1⟩
            · refine .inr ⟨?_, h1⟩
              cases hu : u with
              | false => rfl
              | true => exact absurd (HIF.out.1 hu) h2
          clear hcase HIF
          rcases hku with ⟨rfl, hk2⟩ | ⟨rfl, rfl⟩
          all_goals
            by_cases hn1' : 1 ≤ n ∧ n ≤ 32
            · obtain ⟨g1, g2⟩ := hn1'
              have hg := HG.out g1 g2
              have HGG := Lib.hid hg
              clear hg
              have i1 : decide ((n : Int) < 1) = false := by simp; omega
              have i2 : decide ((n : Int) > 32) = false := by simp; omega
              have hmg := makeGroup_ok n LA L.length lc L w10 (hr6.keep hw10) HGG.out
              go_wp2_with fail
              refine hmg.mono ?_
              rintro e w11 ⟨GA, gc, rfl, hog, hb11⟩
              have hw11 := hw10.trans (hb11.mono hw10.size)
              have hwr11 := hwr10.trans (hb11.mono hwr10.size)
              clear hmg hb11 x0 x1
              have hba := below_alloc w11 (.cells #[.int .i64 n, .slice GA L.length gc] 40)
              have Z := Blk.new w11 40 #[.int .i64 n, .slice GA L.length gc]
              have hog2 := hog.reads.keep hba
              have hw12 := hw11.trans (hba.mono hw11.size)
              have hwr12 := hwr11.trans (hba.mono hwr11.size)
              clear hog hba
              obtain ⟨z0, z1⟩ := Z.cells2
              have hl1 := b10Lists_any GA LA L.length L.length gc lc L L _ hog2 (hr6.keep hw12) (by omega) (by omega)
              rw [show decide (L = L) = true from by simp] at hl1
              go_wp2_with fail
              refine hl1.mono ?_
              rintro e w13 ⟨rfl, hd13⟩
              have hb13 := hd13.below
              have Z2 := Z.after hb13
              have hw13 := hw12.trans (hb13.mono hw12.size)
              have hwr13 := hwr12.trans (hb13.mono hwr12.size)
              have hog3 := hog2.keep hb13
              clear hl1 hd13 hb13 z0 z1
              obtain ⟨z0, z1⟩ := Z2.cells2
              have hor := orbitsOf_ok n GA L.length gc L w13 hog3 HGG.out
              go_wp2_with fail
              refine hor.mono ?_
              rintro e w14 ⟨RA, rn, rc, rfl, ho14, hb14⟩
              have hw14 := hw13.trans (hb14.mono hw13.size)
              have hwr14 := hwr13.trans (hb14.mono hwr13.size)
              have hrn := ho14.len
              have hon := hoo.len
              have hom := orbT_len L n
              have hl2 := b10Lists_any RA OA rn on rc oc _ _ w14 ho14.reads (hoo.reads.keep hw14) (by omega) (by omega)
              rw [show decide (orbT L n = orbT L n) = true from by simp] at hl2
              clear hor hb14 hrn hon hom
              go_wp2_with fail
              refine hl2.mono ?_
              rintro e w15 ⟨rfl, hd15⟩
              go_wp2
              go_ret
              exact ⟨rfl, hwr14.trans (hd15.below.mono hwr14.size)⟩
            · have hn2 : (decide ((n : Int) < 1) = true) ∨ (decide ((n : Int) < 1) = false ∧ decide ((n : Int) > 32) = true) := by
                simp only [decide_eq_true_eq, decide_eq_false_iff_not]; omega
              rcases hn2 with i1 | ⟨i1, i2⟩
              · go_wp2
                go_ret
                exact ⟨rfl, hwr10⟩
              · go_wp2
                go_ret
                exact ⟨rfl, hwr10⟩
  · obtain ⟨r1, r2⟩ := autC_ne h0
    rw [r2] at hol
    rw [r1]
    have hln := hol.len
    obtain rfl : ln = 0 := by simpa using hln.symm
    generalize codeP cs es b = k at *
    clear h0 r1 r2 hln
    go_wp2
    go_ret
    exact ⟨rfl, hw6⟩
theorem law_Automorphisms (A : Option Addr) (n c : Nat) (zs : List Int) (B : Option Addr) (m d : Nat) (ys : List Int) (w : World) (ha : RS EByte w A n zs) (hn : n ≤ c) (hc : c ≤ 9223372036854775807) (hb : RS EByte w B m ys) (hm : m ≤ d) (hd : d ≤ 9223372036854775807) :
    Calls Tryz.prog 3 #[.slice A n c, .slice B m d] w fun e w' => e = .returned (.bool true) ∧ Below w.heap.size w w' := by
  by_cases h1 : n ≤ 1048576
  · by_cases h2 : m ≤ 1048576
    · exact law_Automorphisms_ok A n c zs B m d ys w ha h1 hb h2
    · go_enter Tryz.func3, Tryz.ntmps3
      go_wp2_with fail
      refine (b10Long_no A n c _ h1).mono ?_
      rintro e w' ⟨rfl, rfl⟩
      go_wp2_with fail
      refine (b10Long_yes B m d _ (by omega)).mono ?_
      rintro e w' ⟨rfl, rfl⟩
      go_wp2
      go_ret
      exact ⟨rfl, Below.refl _ _⟩
  · go_enter Tryz.func3, Tryz.ntmps3
    go_wp2_with fail
    refine (b10Long_yes A n c _ (by omega)).mono ?_
    rintro e w' ⟨rfl, rfl⟩
    go_wp2
    go_ret
    exact ⟨rfl, Below.refl _ _⟩
end Go.Proofs.YtpckplpkedhlcaaGreat
