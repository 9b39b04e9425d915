/- Small designs that a law draws. No condition beyond those stated. -/
import Derived.Test.YtdkbcjdimhgmnaaGreatRLE
import Derived.Test.YtdkbcjdimhgmnaaGreatRHJ
set_option linter.unusedVariables false
set_option linter.unusedSimpArgs false
namespace Go.Proofs.YtdkbcjdimhgmnaaGreat
open Go.RowKit
theorem sko1 : (skoP 1).length = 7 ∧ ∀ r ∈ skoP 1, r.length ≤ 3 ∧ ∀ x ∈ r, 0 ≤ x ∧ x < 7 := by decide +kernel
set_option maxRecDepth 100000 in
set_option maxHeartbeats 1000000 in
theorem l11Make_7 (w : World) :
    Calls Tryz.prog 126 #[.int .i64 7] w (fun e w' => ∃ A c vs, e = .returned (.agg #[.int .i64 7, .slice A 7 c]) ∧ OB w' w.heap.size A 7 c vs (srtR (skoP 1)) ∧ Below w.heap.size w w') := by
  have R := Blk.new w 56 #[.int .i64 0, .slice none 0 0]
  have hb0 := below_alloc w (.cells #[.int .i64 0, .slice none 0 0] 56)
  go_enter Tryz.func126, Tryz.ntmps126
  go_wp2_with fail
  refine (l11Skolem_any 1 _ (by omega)).mono ?_
  rintro e w1 ⟨A, n, c, rfl, ho, hb⟩
  obtain rfl : n = 7 := by rw [← ho.len, sko1.1]
  have R := R.after hb
  have hb1 := below_then hb0 hb
  have hrow : Hid (∀ i, i < 7 → (row (skoP 1) i).length ≤ 1048576) := Lib.hid fun i hi => by
    have := (sko1.2 (row (skoP 1) i) (by rw [row_get (by rw [sko1.1]; exact hi)]; exact List.getElem_mem _)).1
    omega
  have hso := l10Sort_any A 7 c (skoP 1) _ ho.reads (by omega) hrow.out
  have hRl := R.lt
  clear hb
  go_wp2_with fail
  refine hso.mono ?_
  rintro e w5 ⟨A5, c5, v5, rfl, ho5, hb5⟩
  have R5 := R.after hb5
  have hb6 := hb1.trans (hb5.mono hb1.size)
  clear hso R hb1 hb5 ho
  have y0 := R5.cell 0
  have y1 := R5.cell 1
  have f0 := R5.frozen 0
  have f1 := R5.frozen 1
  have YF := (R5.set_ 0 (.int .i64 7)).set_ 1 (.slice A5 7 c5)
  have z0 := YF.cell 0
  have z1 := YF.cell 1
  have ho6 := ((ho5.setLow (p := ⟨w.heap.size, 0, none⟩) hRl (.int .i64 7)).setLow (p := ⟨w.heap.size, 1, none⟩) hRl (.slice A5 7 c5)).more (B' := w.heap.size) (by omega)
  have hb7 := (hb6.setCell (p := ⟨w.heap.size, 0, none⟩) (by simp) (.int .i64 7)).setCell (p := ⟨w.heap.size, 1, none⟩) (by simp) (.slice A5 7 c5)
  clear YF R5 ho5 hb6
  go_wp2
  exact bodyPost_ret (v := .agg #[.int .i64 7, .slice A5 7 c5]) (by simp [results, Tryz.results126, go_sem, z0, z1]) rfl ⟨A5, c5, v5, rfl, ho6, hb7⟩
def AnyD (V : Int) (zss : List (List Int)) : Prop := I64 V ∧ zss.length ≤ 200
theorem bent_any {V : Int} {zss : List (List Int)} (h : BentD V zss) : AnyD V zss := by
  rcases h with ⟨V0, z0, hD, hh⟩ | ⟨rfl, m, hm, rfl⟩
  · have := draw_shape hD
    rcases hh with ⟨rfl, rfl⟩ | ⟨hV, rfl⟩ | ⟨rfl, rfl⟩ | ⟨rfl, rfl⟩ | ⟨rfl, rfl⟩
    · exact ⟨⟨by omega, by omega⟩, by omega⟩
    · exact ⟨⟨by omega, by omega⟩, by omega⟩
    · exact ⟨⟨by omega, by omega⟩, by simp; omega⟩
    · exact ⟨⟨by omega, by omega⟩, by simp; omega⟩
    · exact ⟨⟨by omega, by omega⟩, by simp; omega⟩
  · exact ⟨⟨by omega, by omega⟩, by simp; omega⟩
def lenV' (v : Value) : Nat := match v with | .slice _ n _ => n | _ => 0
theorem RR.drop1 {w : World} {ad : Addr} {n : Nat} {zss : List (List Int)} (h : RR w (some ad) n zss) {k : Nat} (hk : k ≤ n) : RR w (some (ad.add k)) (n - k) (zss.drop k) := by
  refine ⟨by rw [List.length_drop, h.len], fun j z hz => ?_⟩
  rw [List.getElem?_drop] at hz
  obtain ⟨ad', v, ha, hc, r⟩ := h.2 (k + j) z hz
  cases ha
  refine ⟨ad.add k, v, rfl, ?_, r⟩
  have : (ad.add k).add j = ad.add (k + j) := by
    unfold Addr.add
    by_cases hk : k = 0
    · subst hk; simp
    · by_cases hj : j = 0
      · subst hj; simp
      · simp [hk, hj, Nat.add_assoc]
  rw [this]; exact hc
set_option maxRecDepth 100000 in
set_option maxHeartbeats 1000000 in
theorem l23Draw_any (g p : Nat) (w : World) (hs : Src w g p) (hp : p ≤ 17592186044416) :
    Calls Tryz.prog 66 #[.pointer (some ⟨g, 0, none⟩)] w (RetDs AnyD w g p 200) := by
  have S := (SrW.start hs).step (below_alloc w (.cells #[.int .i64 0, .slice none 0 0] 56))
  have R := Blk.new w 56 #[.int .i64 0, .slice none 0 0]
  clear hs
  have hgl := S.gl
  go_enter Tryz.func66, Tryz.ntmps66
  go_wp2_with fail
  refine (pick_any g p 4 _ S.src (by omega) (by omega) (by omega)).mono ?_
  rintro e w1 ⟨x, q, rfl, x0, x1, hq, hs1, hg1⟩
  have R := R.grown hg1 (fun e => by injection e with e; omega)
  have S := S.next hs1 hg1
  clear hs1 hg1
  by_cases e0 : x = 0
  · subst e0
    go_wp2_with fail
    refine (l11Make_7 _).mono ?_
    rintro e w2 ⟨A, c, vs, rfl, ho, hb⟩
    have hsz1 := S.size
    have R := R.after hb
    have S := S.step hb
    have hsz2 := S.size
    have X := Blk.new w2 56 #[.int .i64 7, .slice A 7 c]
    have hba := below_alloc w2 (.cells #[.int .i64 7, .slice A 7 c] 56)
    have R := R.after hba
    have S := S.step hba
    have hr := ho.reads.keep hba
    have hgw := S.size
    clear hb
    go_wp2_with fail
    refine (l04DrawPerm_any g q 7 _ S.src (by omega) (by omega)).mono ?_
    rintro e w3 ⟨P, pc, pz, q3, rfl, hop, hlp, hpp, S3, hq3⟩
    have X := X.grown S3.grown (fun e => by injection e with e; omega)
    have R := R.grown S3.grown (fun e => by injection e with e; omega)
    have S := S.then_ S3
    have hr := (ho.below hba).keptB S3.grown (by omega)
    have hr := hr.reads
    have hmem : ∀ i, i < 7 → row (srtR (skoP 1)) i ∈ skoP 1 := fun i hi => (srtR_perm _).mem_iff.1 (by rw [row_get (by rw [srtR_len, sko1.1]; exact hi)]; exact List.getElem_mem _)
    have him := l10Image_any w2.heap.size 7 A 7 c (srtR (skoP 1)) P 7 pc pz w3 X hr hop.reads (fun k hk x hx => by have := (sko1.2 _ (hmem k hk)).2 x hx; omega) (fun k hk => by have := (sko1.2 _ (hmem k hk)).1; omega) (by omega) (by omega)
    have hRl := R.lt
    have HP : AnyD 7 (srtR ((srtR (skoP 1)).map (imgR pz))) := ⟨⟨by omega, by omega⟩, by rw [srtR_len, List.length_map, srtR_len, sko1.1]; omega⟩
    clear hr hop hmem ho X hba
    go_wp2_with fail
    refine him.mono ?_
    rintro e w5 ⟨A5, c5, v5, rfl, ho5, hb5⟩
    have R5 := R.after hb5
    have S5 := S.step hb5
    clear him R S hb5
    obtain ⟨y0, y1, f0, f1, z0, z1, HF⟩ := retD_put (Φ := AnyD) (g := g) (p := p) (k := 200) (V := 7) R5 (Nat.le_refl _) hRl ho5 S5 (by omega) HP
    go_wp2
    exact bodyPost_ret (v := .agg #[.int .i64 7, .slice A5 7 c5]) (by simp [results, Tryz.results66, go_sem, z0, z1]) rfl HF
  by_cases e1 : x = 1
  · subst e1
    go_wp2_with fail
    refine (l10Bent_any g q _ S.src (by omega)).mono ?_
    rintro e w2 ⟨V, A, n, c, vs, zss, q2, rfl, ho, S2, hq2, hK⟩
    have hRl := R.lt
    have R2 := R.grown S2.grown (fun e => by injection e with e; omega)
    have S3 := S.then_ S2
    clear R S S2
    obtain ⟨y0, y1, f0, f1, z0, z1, HF⟩ := retD_put (Φ := AnyD) (g := g) (p := p) (k := 200) (V := V) R2 (Nat.le_refl _) hRl ho S3 (by omega) (bent_any hK)
    go_wp2
    exact bodyPost_ret (v := .agg #[.int .i64 V, .slice A n c]) (by simp [results, Tryz.results66, go_sem, z0, z1]) rfl HF
  · have e0' : (x == 0) = false := by simp [e0]
    have e1' : (x == 1) = false := by simp [e1]
    clear e0 e1
    go_wp2_with fail
    refine (pick_any g q 5 _ S.src (by omega) (by omega) (by omega)).mono ?_
    rintro e w2 ⟨y, q2, rfl, y0, y1, hq2, hs2, hg2⟩
    have R := R.grown hg2 (fun e => by injection e with e; omega)
    have S := S.next hs2 hg2
    obtain ⟨y, rfl⟩ := Int.eq_ofNat_of_zero_le y0
    have hx1 : (2 : Int) + (y : Int) = ((y + 2 : Nat) : Int) := by omega
    have hblk := l10DrawBlocks_any g q2 (y + 2) w2 S.src (by omega) (by omega) (by omega)
    have hx8 : y + 2 ≤ 7 := by omega
    clear hs2 hg2 y0 y1
    generalize y + 2 = pts at *
    go_wp2_with fail
    refine hblk.mono ?_
    rintro e w3 ⟨A, k, c, zss, q3, rfl, D, hB, hk8, hq3⟩
    have R := R.grown D.s.grown (fun e => by injection e with e; omega)
    have S := S.then_ D.s
    have hr := D.o.reads
    have hcap := D.o.os_cap
    have hlen : ∀ r ∈ zss, r.length ≤ 4 := fun r hr => (hB r hr).2.1
    clear hblk hx1 D hB
    go_wp2
    go_loop [5] (fun lv => ∃ (A : Option Addr) (k c : Nat) (zss : List (List Int)), lv = .slice A k c ∧ RR w3 A k zss ∧ k ≤ 8 ∧ k ≤ c ∧ c ≤ 9223372036854775807 ∧ Hid (∀ r ∈ zss, r.length ≤ 4)) (fun lv => lenV' lv)
    case atStart => exact ⟨A, k, c, zss, rfl, hr, hk8, hcap.1, hcap.2, Lib.hid hlen⟩
    case round =>
      clear hr hk8 hcap hlen
      obtain ⟨A, k, c, zss, rfl, hr, hk8, hkc, hc, hlen⟩ := hrel
      by_cases h6 : 6 < k
      · obtain ⟨ad, B1, m1, c1, rfl, -⟩ := hr.get (k := 0) (by omega)
        have hr1 := RR.drop1 hr (k := 1) (by omega)
        have h1c : 1 < c := by omega
        have hl2 : Hid (∀ r ∈ zss.drop 1, r.length ≤ 4) := Lib.hid fun r hr => hlen.out r (List.mem_of_mem_drop hr)
        have h6' : (6 : Int) < k := by omega
        clear hr hlen
        go_wp2
        go_round
        case rel => exact ⟨some (ad.add 1), k - 1, c - 1, zss.drop 1, by simp [Addr.add], hr1, by omega, by omega, by omega, hl2⟩
        case measure => simp only [lenV']; omega
      · have h6' : ¬ (6 : Int) < k := by omega
        have hrow : Hid (∀ i, i < k → (row zss i).length ≤ 1048576) := Lib.hid fun i hi => by
          have := hlen.out (row zss i) (by rw [row_get (by rw [hr.len]; exact hi)]; exact List.getElem_mem _)
          omega
        have hso := l10Sort_any A k c zss _ hr (by omega) hrow.out
        have HP : AnyD (pts : Int) (srtR zss) := ⟨⟨by omega, by omega⟩, by rw [srtR_len, hr.len]; omega⟩
        have hRl := R.lt
        go_wp2_with fail
        refine hso.mono ?_
        rintro e w5 ⟨A5, c5, v5, rfl, ho5, hb5⟩
        have R5 := R.after hb5
        have S5 := S.step hb5
        clear hso R S hb5 hr
        obtain ⟨y0, y1, f0, f1, z0, z1, HF⟩ := retD_put (Φ := AnyD) (g := g) (p := p) (k := 200) (V := (pts : Int)) R5 (Nat.le_refl _) hRl ho5 S5 (by omega) HP
        go_wp2
        exact bodyPost_ret (v := .agg #[.int .i64 (pts : Int), .slice A5 k c5]) (by simp [results, Tryz.results66, go_sem, z0, z1]) rfl HF
theorem fix_design : Design 3 [[0, 1], [0, 2]] := by
  refine ⟨by omega, by omega, by decide, fun i hi => ?_, fun i hi => ?_⟩
  · have : i = 0 ∨ i = 1 := by simp at hi; omega
    rcases this with rfl | rfl
    · refine ⟨by decide, ⟨fun k hk => ?_, fun k hk => ?_⟩⟩
      · have : k = 0 ∨ k = 1 := by simp [row] at hk; omega
        rcases this with rfl | rfl <;> decide
      · have : k = 0 := by simp [row] at hk; omega
        subst this; decide
    · refine ⟨by decide, ⟨fun k hk => ?_, fun k hk => ?_⟩⟩
      · have : k = 0 ∨ k = 1 := by simp [row] at hk; omega
        rcases this with rfl | rfl <;> decide
      · have : k = 0 := by simp [row] at hk; omega
        subst this; decide
  · have : i = 0 := by simp at hi; omega
    subst this; decide
set_option maxRecDepth 100000 in
set_option maxHeartbeats 1000000 in
theorem v8Small_any (A : Option Addr) (n c : Nat) (bs : List Int) (w : World) (ha : RS EByte w A n bs) (hn : n ≤ 9223372036854775807) :
    Calls Tryz.prog 24 #[.slice A n c] w (fun e w' => ∃ (V : Nat) (A' : Option Addr) (m d : Nat) (vs : List Sl) (zss : List (List Int)), e = .returned (.agg #[.int .i64 V, .slice A' m d]) ∧ OB w' w.heap.size A' m d vs zss ∧ Design (V : Int) zss ∧ m ≤ 13 ∧ Below w.heap.size w w') := by
  have R := Blk.new w 56 #[.int .i64 0, .slice none 0 0]
  have hb0 := below_alloc w (.cells #[.int .i64 0, .slice none 0 0] 56)
  have hfr := l00From_any A n c bs _ (EBytes.keep ha hb0) hn
  rw [show (w.alloc (.cells #[.int .i64 0, .slice none 0 0] 56)).heap.size = w.heap.size + 1 by simp] at hfr
  go_enter Tryz.func24, Tryz.ntmps24
  go_wp2_with fail
  refine hfr.mono ?_
  rintro e w1 ⟨rfl, hs1, hb1⟩
  have R := R.after (by rw [show (w.alloc (.cells #[.int .i64 0, .slice none 0 0] 56)).heap.size = w.heap.size + 1 by simp]; exact hb1)
  have hb01 : Below w.heap.size w w1 := hb0.trans (hb1.mono (by omega))
  have S := SrW.start hs1
  clear hfr hb0 hb1 hs1
  go_wp2_with fail
  refine (l23Draw_any (w.heap.size + 1) 0 w1 S.src (by omega)).mono ?_
  rintro e w2 ⟨V, A2, m, d, vs, zss, q2, rfl, ho, S2, hq2, hP⟩
  have R := R.grown S2.grown (fun e => by injection e with e; omega)
  have hg2 : Below w.heap.size w w2 := ⟨S2.grown.os.trans hb01.os, S2.grown.tape.trans hb01.tape, S2.grown.output.trans hb01.output, Nat.le_trans hb01.size S2.size, fun j hj => by
    rw [S2.grown.block j (Nat.lt_of_lt_of_le hj hb01.size) (fun e => by injection e with e; omega)]
    exact hb01.block j hj⟩
  have hw1 : w.heap.size + 1 < w1.heap.size := S.gl
  have hm : m ≤ 200 := by have := ho.lenZ; have := hP.2; omega
  have hV := hP.1
  have hba := below_alloc w2 (.cells #[.int .i64 V, .slice A2 m d] 56)
  have X := Blk.new w2 56 #[.int .i64 V, .slice A2 m d]
  have ho2 := (ho.below hba).more (B' := w.heap.size + 1) (by omega)
  have R := R.after hba
  have hb2 := hg2.trans (hba.mono hg2.size)
  have hok := l10Ok_any w2.heap.size V A2 m d zss _ X ho2.reads (by omega)
  clear S S2 hb01 hg2 ho hba
  cases hh : tB (Design V zss) with
  | false =>
    rw [hh] at hok
    go_wp2_with fail
    refine hok.mono ?_
    rintro e w3 ⟨rfl, q, rfl⟩
    have hdr := below_drewn (w2.alloc (.cells #[.int .i64 V, .slice A2 m d] 56)) q
    have R := R.after hdr
    have hb3 := hb2.trans (hdr.mono hb2.size)
    clear hok X ho2 hdr
    generalize (w2.alloc (.cells #[.int .i64 V, .slice A2 m d] 56)).drewN q = W at *
    have F := lit_OB W (w.heap.size + 1) [[0, 1], [0, 2]] (by have := R.lt; omega) (by decide) (fun r hr => by
      simp only [List.mem_cons, List.not_mem_nil, or_false] at hr
      rcases hr with rfl | rfl <;> exact ⟨fun x hx => by simp at hx; unfold I64; omega, by decide⟩)
    have b1 := allocs_below 2 [[0, 1], [0, 2]] W
    have b2 := below_then b1 (below_alloc _ (.cells ((hdrs W.heap.size [[0, 1], [0, 2]]).map slv).toArray 22))
    have R5 := R.after b2
    have hb5 := hb3.trans (b2.mono hb3.size)
    have y0 := R5.cell 0
    have y1 := R5.cell 1
    have f0 := R5.frozen 0
    have f1 := R5.frozen 1
    have YF := (R5.set_ 0 (.int .i64 3)).set_ 1 (.slice (some ⟨W.heap.size + 1 + 1, 0, none⟩) 2 2)
    have z0 := YF.cell 0
    have z1 := YF.cell 1
    have F2 := ((F.setLow (p := ⟨w.heap.size, 0, none⟩) (Nat.lt_succ_self _) (.int .i64 3)).setLow (p := ⟨w.heap.size, 1, none⟩) (Nat.lt_succ_self _) (.slice (some ⟨W.heap.size + 1 + 1, 0, none⟩) 2 2)).more (B' := w.heap.size) (by omega)
    have hb7 := (hb5.setCell (p := ⟨w.heap.size, 0, none⟩) (by simp) (.int .i64 3)).setCell (p := ⟨w.heap.size, 1, none⟩) (by simp) (.slice (some ⟨W.heap.size + 1 + 1, 0, none⟩) 2 2)
    clear F YF R5 R b1 b2 hb3 hb5
    simp only [allocs, hdrs, ints, List.map_cons, List.map_nil, slv, List.length_cons, List.length_nil, Nat.zero_add, Nat.reduceAdd] at y0 y1 f0 f1 z0 z1 F2 hb7
    go_wp2
    exact bodyPost_ret (v := .agg #[.int .i64 3, .slice (some ⟨W.heap.size + 1 + 1, 0, none⟩) 2 2]) (by simp [results, Tryz.results24, go_sem, z0, z1]) rfl ⟨3, _, 2, 2, _, [[0, 1], [0, 2]], rfl, F2, fix_design, by omega, hb7⟩
  | true =>
    rw [hh] at hok
    have hD := tB_true.1 hh
    obtain ⟨VN, rfl⟩ := Int.eq_ofNat_of_zero_le (show 0 ≤ V by have := hD.v1; omega)
    have HD := Lib.hid hD
    clear hD hh
    go_wp2_with fail
    refine hok.mono ?_
    rintro e w3 ⟨rfl, q, rfl⟩
    have hdr := below_drewn (w2.alloc (.cells #[.int .i64 (VN : Int), .slice A2 m d] 56)) q
    have R := R.after hdr
    have X := X.after hdr
    have ho3 := ho2.below hdr
    have hb3 := hb2.trans (hdr.mono hb2.size)
    clear hok ho2 hdr hb2
    generalize (w2.alloc (.cells #[.int .i64 (VN : Int), .slice A2 m d] 56)).drewN q = W at *
    obtain ⟨x0, x1⟩ := X.cells2
    by_cases h13 : m ≤ 13
    · have h13' : ¬ (13 : Int) < m := by omega
      have y0 := R.cell 0
      have y1 := R.cell 1
      have f0 := R.frozen 0
      have f1 := R.frozen 1
      have YF := (R.set_ 0 (.int .i64 (VN : Int))).set_ 1 (.slice A2 m d)
      have z0 := YF.cell 0
      have z1 := YF.cell 1
      have F2 := ((ho3.setLow (p := ⟨w.heap.size, 0, none⟩) (Nat.lt_succ_self _) (.int .i64 (VN : Int))).setLow (p := ⟨w.heap.size, 1, none⟩) (Nat.lt_succ_self _) (.slice A2 m d)).more (B' := w.heap.size) (by omega)
      have hb7 := (hb3.setCell (p := ⟨w.heap.size, 0, none⟩) (by simp) (.int .i64 (VN : Int))).setCell (p := ⟨w.heap.size, 1, none⟩) (by simp) (.slice A2 m d)
      clear YF R X ho3 hb3
      go_wp2
      exact bodyPost_ret (v := .agg #[.int .i64 (VN : Int), .slice A2 m d]) (by simp [results, Tryz.results24, go_sem, z0, z1]) rfl ⟨VN, _, m, d, _, zss, rfl, F2, HD.out, h13, hb7⟩
    · have h13' : (13 : Int) < m := by omega
      have F := lit_OB W (w.heap.size + 1) [[0, 1], [0, 2]] (by have := R.lt; omega) (by decide) (fun r hr => by
        simp only [List.mem_cons, List.not_mem_nil, or_false] at hr
        rcases hr with rfl | rfl <;> exact ⟨fun x hx => by simp at hx; unfold I64; omega, by decide⟩)
      have b1 := allocs_below 2 [[0, 1], [0, 2]] W
      have b2 := below_then b1 (below_alloc _ (.cells ((hdrs W.heap.size [[0, 1], [0, 2]]).map slv).toArray 22))
      have R5 := R.after b2
      have hb5 := hb3.trans (b2.mono hb3.size)
      have y0 := R5.cell 0
      have y1 := R5.cell 1
      have f0 := R5.frozen 0
      have f1 := R5.frozen 1
      have YF := (R5.set_ 0 (.int .i64 3)).set_ 1 (.slice (some ⟨W.heap.size + 1 + 1, 0, none⟩) 2 2)
      have z0 := YF.cell 0
      have z1 := YF.cell 1
      have F2 := ((F.setLow (p := ⟨w.heap.size, 0, none⟩) (Nat.lt_succ_self _) (.int .i64 3)).setLow (p := ⟨w.heap.size, 1, none⟩) (Nat.lt_succ_self _) (.slice (some ⟨W.heap.size + 1 + 1, 0, none⟩) 2 2)).more (B' := w.heap.size) (by omega)
      have hb7 := (hb5.setCell (p := ⟨w.heap.size, 0, none⟩) (by simp) (.int .i64 3)).setCell (p := ⟨w.heap.size, 1, none⟩) (by simp) (.slice (some ⟨W.heap.size + 1 + 1, 0, none⟩) 2 2)
      clear F YF R5 R b1 b2 hb3 hb5 X ho3
      simp only [allocs, hdrs, ints, List.map_cons, List.map_nil, slv, List.length_cons, List.length_nil, Nat.zero_add, Nat.reduceAdd] at y0 y1 f0 f1 z0 z1 F2 hb7
      go_wp2
      exact bodyPost_ret (v := .agg #[.int .i64 3, .slice (some ⟨W.heap.size + 1 + 1, 0, none⟩) 2 2]) (by simp [results, Tryz.results24, go_sem, z0, z1]) rfl ⟨3, _, 2, 2, _, [[0, 1], [0, 2]], rfl, F2, fix_design, by omega, hb7⟩
set_option maxHeartbeats 400000 in
theorem v8Long_no (A : Option Addr) (n c : Nat) (B : Option Addr) (m d : Nat) (w : World) (hn : n ≤ 1048576) (hm : m ≤ 1048576) : Calls Tryz.prog 12 #[.slice A n c, .slice B m d] w fun e w' => e = .returned (.bool false) ∧ w = w' := by
  have h : ¬ (n : Int) > 1048576 := by omega
  have h2 : ¬ (m : Int) > 1048576 := by omega
  go_enter Tryz.func12, Tryz.ntmps12
  go_wp2
  go_ret
  exact ⟨rfl, rfl⟩
set_option maxHeartbeats 400000 in
theorem v8Long_one (A : Option Addr) (n c : Nat) (B : Option Addr) (m d : Nat) (w : World) (hn : 1048576 < n) : Calls Tryz.prog 12 #[.slice A n c, .slice B m d] w fun e w' => e = .returned (.bool true) ∧ w = w' := by
  have h : (n : Int) > 1048576 := by omega
  go_enter Tryz.func12, Tryz.ntmps12
  go_wp2
  go_ret
  exact ⟨rfl, rfl⟩
set_option maxHeartbeats 400000 in
theorem v8Long_two (A : Option Addr) (n c : Nat) (B : Option Addr) (m d : Nat) (w : World) (hn : n ≤ 1048576) (hm : 1048576 < m) : Calls Tryz.prog 12 #[.slice A n c, .slice B m d] w fun e w' => e = .returned (.bool true) ∧ w = w' := by
  have h : ¬ (n : Int) > 1048576 := by omega
  have h2 : (m : Int) > 1048576 := by omega
  go_enter Tryz.func12, Tryz.ntmps12
  go_wp2
  go_ret
  exact ⟨rfl, rfl⟩
set_option maxHeartbeats 1000000 in
theorem v8At_any (A : Option Addr) (n c : Nat) (zs : List Int) (i : Nat) (k : Int) (w : World) (ha : RS EByte w A n zs) (hi2 : i ≤ 1000000) (hk1 : 1 ≤ k) (hk2 : k ≤ 1000000) (hn : n ≤ 9223372036854775807) :
    Calls Tryz.prog 15 #[.slice A n c, .int .i64 i, .int .i64 k] w fun e w' => (∃ x : Int, e = .returned (.int .i64 x) ∧ 0 ≤ x ∧ x < k) ∧ w = w' := by
  by_cases h0 : k ≤ 1
  · go_enter Tryz.func15, Tryz.ntmps15
    go_wp2
    go_ret
    exact ⟨⟨0, rfl, by omega, by omega⟩, rfl⟩
  · by_cases hlt : i < n
    · obtain ⟨ad, u, x, rfl, hx, hc, rfl, x0, x1⟩ := ha.get hlt
      have h0' : 1 < k := by omega
      have hlt' : ¬ (n : Int) ≤ i := by omega
      have HM := Lib.hid (show 0 ≤ x % k ∧ x % k < k from ⟨Int.emod_nonneg _ (by omega), Int.emod_lt_of_pos _ (by omega)⟩)
      clear hx h0
      go_enter Tryz.func15, Tryz.ntmps15
      go_wp2
      go_ret
      exact ⟨⟨x % k, rfl, HM.out.1, HM.out.2⟩, rfl⟩
    · have h0' : 1 < k := by omega
      have hge : (n : Int) ≤ i := by omega
      clear h0
      go_enter Tryz.func15, Tryz.ntmps15
      go_wp2
      go_ret
      exact ⟨⟨0, rfl, by omega, by omega⟩, rfl⟩
set_option maxHeartbeats 1000000 in
theorem sameDesign_eq (V : Int) (A : Option Addr) (n c : Nat) (B : Option Addr) (m d : Nat) (zss : List (List Int)) (w : World) (ha : RR w A n zss) (hb : RR w B m zss) (hn : n ≤ 9223372036854775807) (hm : m ≤ 9223372036854775807) :
    Calls Tryz.prog 27 #[.agg #[.int .i64 V, .slice A n c], .agg #[.int .i64 V, .slice B m d]] w fun e w' => e = .returned (.bool true) ∧ Below w.heap.size w w' := by
  have hb1 := below_then (below_alloc w (.cells #[.int .i64 V, .slice A n c] 56)) (below_alloc _ (.cells #[.int .i64 V, .slice B m d] 56))
  have h := l10Same_any A B n m c d zss zss _ (ha.keep hb1) (hb.keep hb1) hn hm
  rw [show decide (zss = zss) = true by simp] at h
  go_enter Tryz.func27, Tryz.ntmps27
  go_wp2_with fail
  refine h.mono ?_
  rintro e w' ⟨rfl, q, rfl⟩
  have hb2 := hb1.trans ((below_drewn _ q).mono hb1.size)
  clear h hb1
  go_wp2
  go_ret
  exact ⟨rfl, hb2⟩
set_option maxHeartbeats 1000000 in
theorem conjugate_any (A : Option Addr) (n c kind : Nat) (a : List (List Int)) (w : World) (ha : RR w A n a) (hq : Square a) (hk6 : kind < 6) :
    Calls Tryz.prog 21 #[.slice A n c, .int .i64 kind] w (fun e w' => ∃ A' c' b, e = .returned (.tuple #[.slice A' n c', .int .i64 0]) ∧ OR w' w.heap.size 22 2 A' n c' b ∧ Fil n (fun x y => triN a x y (cjp kind 0)) (fun x y => triN a x y (cjp kind 1)) (fun x y => (triN a x y (cjp kind 2) : Int)) b n 0 ∧ Below w.heap.size w w') := by
  have hl := ha.len
  have hn : n ≤ 10 := by rw [← hl]; exact hq.2.1
  have hok := l06Ok_any A n c a w ha (by omega)
  rw [tB_yes hq] at hok
  go_enter Tryz.func21, Tryz.ntmps21
  go_wp2_with fail
  refine hok.mono ?_
  rintro e w1 ⟨rfl, hb1⟩
  have hcj := l06Conjugate_any A n c kind a w1 (ha.keep hb1) hq hk6
  have hin : inB (kind : Int) 0 5 = true := inB_mk ⟨by omega, by omega⟩
  clear hok ha
  go_wp2_with (go_at_call 37; refine (l00In_any _ _ _ _).mono ?_; rintro e w' ⟨rfl, rfl⟩; rw [hin])
  refine hcj.mono ?_
  rintro e w2 ⟨A', c', b, rfl, ho, hF, hb2⟩
  have ho2 := ho.more hb1.size
  have hb3 := hb1.trans (hb2.mono hb1.size)
  clear hcj ho hb1 hb2
  go_wp2
  go_ret2
  exact ⟨_, _, _, rfl, ho2, hF, hb3⟩
def cjq (kind i : Nat) : Nat := if cjp kind 0 = i then 0 else if cjp kind 1 = i then 1 else 2
theorem cj_inv {kind : Nat} (h : kind < 6) : Inv3 (cjp kind) (cjq kind) := by
  refine ⟨fun i hi => ?_⟩
  have hk : kind = 0 ∨ kind = 1 ∨ kind = 2 ∨ kind = 3 ∨ kind = 4 ∨ kind = 5 := by omega
  have h3 : i = 0 ∨ i = 1 ∨ i = 2 := by omega
  rcases hk with rfl | rfl | rfl | rfl | rfl | rfl <;> rcases h3 with rfl | rfl | rfl <;> decide +kernel
theorem iso_law {n : Nat} {a b : List (List Int)} {r k z : List Int} (h1 : Square a) (hn : a.length = n) (n6 : n ≤ 6) (h2 : Square b) (hb : b.length = n) (hr : Perm r) (lr : r.length = n) (hk : Perm k) (lk : k.length = n) (hz : Perm z) (lz : z.length = n)
    (hF : Fil n (fun x _ => (nth r x).toNat) (fun _ y => (nth k y).toNat) (fun x y => nth z (nth (row a x) y).toNat) b n 0) :
    (sqK a b false 1500 = 0 ∧ sqR a b false 1500 = true) ∨ sqK a b false 1500 = 5 := by
  have hi : IsotopeOf n a b r k z := fun x y hx hy => hF.got x y hx hy (.inl hx)
  have iso := isotope_iso h1 hn hr lr hk lk hz lz hi
  have hu : inB 1500 1 20000 = true := by decide
  rcases sqK_two h1 h2 hn hb n6 hu (cl := false) with h0 | h5
  · exact .inl ⟨h0, sqK_iso h1 h2 hn hb n6 hu iso (isotope_colors hr lr hk lk hz lz false) h0⟩
  · exact .inr h5
theorem main_law {n kind : Nat} {a b c : List (List Int)} {r k z : List Int} (h1 : Square a) (hn : a.length = n) (n6 : n ≤ 6) (h2 : Square b) (hb : b.length = n) (hr : Perm r) (lr : r.length = n) (hk : Perm k) (lk : k.length = n) (hz : Perm z) (lz : z.length = n)
    (hF : Fil n (fun x _ => (nth r x).toNat) (fun _ y => (nth k y).toNat) (fun x y => nth z (nth (row a x) y).toNat) b n 0) (k6 : kind < 6)
    (hG : Fil n (fun x y => triN b x y (cjp kind 0)) (fun x y => triN b x y (cjp kind 1)) (fun x y => (triN b x y (cjp kind 2) : Int)) c n 0) :
    (sqK a c true 1500 = 0 ∧ sqR a c true 1500 = true) ∨ sqK a c true 1500 = 5 := by
  have l3 := fun i hi => (cjp_lt k6 (i := i) hi).1
  have hne := cjp_ne k6
  have h3 : Square c := conj_square h2 hb (l3 0 (by omega)) (l3 1 (by omega)) (l3 2 (by omega)) hne.1 hne.2.1 hne.2.2 hG
  have hc := hG.len
  have hi : IsotopeOf n a b r k z := fun x y hx hy => hF.got x y hx hy (.inl hx)
  have hj : ConjOf n b c (cjp kind) := fun x y hx hy => hG.got x y hx hy (.inl hx)
  have i1 := isotope_iso h1 hn hr lr hk lk hz lz hi
  have i2 := conj_iso h2 hb h3 hc (cj_inv k6) hj
  have hu : inB 1500 1 20000 = true := by decide
  have hcol : sqC n true = thenP (thenP (itP n r k z) (cjP n b (cjp kind) (cjq kind))) (sqC n true) :=
    thenP_colors (isotope_colors hr lr hk lk hz lz true) (conj_colors (cj_inv k6) i2.perm) i1.perm i1.len i2.len
  rcases sqK_two h1 h3 hn hc n6 hu (cl := true) with h0 | h5
  · exact .inl ⟨h0, sqK_iso h1 h3 hn hc n6 hu (i1.trans i2) hcol h0⟩
  · exact .inr h5
theorem sq_cells {a : List (List Int)} (h : Square a) : cells a ≤ 1099511627776 := by
  have := cells_under (l := a) (k := a.length) (fun r hr => by
    obtain ⟨i, hi, rfl⟩ := List.getElem_of_mem hr
    have := (h.2.2.1 i hi).1
    rw [row_get hi] at this
    omega)
  have h2 : a.length * a.length ≤ 10 * 10 := Nat.mul_le_mul h.2.1 h.2.1
  omega
set_option maxRecDepth 100000 in
set_option maxHeartbeats 2000000 in
theorem law_Isotopic_ok (A0 : Option Addr) (n0 c0 : Nat) (bs : List Int) (A1 : Option Addr) (n1 c1 : Nat) (ys : List Int) (w : World) (ha : RS EByte w A0 n0 bs) (hn0 : n0 ≤ 1048576) (hb : RS EByte w A1 n1 ys) (hn1 : n1 ≤ 1048576) :
    Calls Tryz.prog 5 #[.slice A0 n0 c0, .slice A1 n1 c1] w fun e w' => e = .returned (.bool true) ∧ Below w.heap.size w w' := by
  go_enter Tryz.func5, Tryz.ntmps5
  go_wp2_with fail
  refine (v8Long_no A0 n0 c0 A1 n1 c1 w hn0 hn1).mono ?_
  rintro e w0 ⟨rfl, rfl⟩
  go_wp2_with fail
  refine (v8Square_any A0 n0 c0 bs _ ha (by omega)).mono ?_
  rintro e w1 ⟨X, n, xc, a, rfl, hoa, hla, hSa, hb1⟩
  by_cases h4 : n ≤ 4
  · have h4' : ¬ (4 : Int) < n := by omega
    go_wp2_with fail
    refine (v8Isotope_any A1 n1 c1 ys X n xc a w1 (EBytes.keep hb hb1) (by omega) hoa.reads hSa).mono ?_
    rintro e w2 ⟨Y, yc, b, r, kk, z, rfl, hob, hSb, ⟨hr, lr⟩, ⟨hk, lk⟩, ⟨hz, lz⟩, hF, hb2⟩
    have hoa := hoa.below hb2
    have hb12 := hb1.trans (hb2.mono hb1.size)
    have hlb := hF.len
    clear hb2
    go_wp2_with fail
    refine (v8At_any A1 n1 c1 ys 0 6 w2 (EBytes.keep hb hb12) (by omega) (by omega) (by omega) (by omega)).mono ?_
    rintro e w3 ⟨⟨kind, rfl, k0, k6⟩, rfl⟩
    obtain ⟨kind, rfl⟩ := Int.eq_ofNat_of_zero_le k0
    have hk6 : kind < 6 := by omega
    clear k0 k6
    go_wp2_with fail
    refine (conjugate_any Y n yc kind b w2 hob.reads hSb hk6).mono ?_
    rintro e w3 ⟨Z, zc, c, rfl, hoc, hG, hb3⟩
    have hoa := hoa.below hb3
    have hob := hob.below hb3
    have hb13 := hb12.trans (hb3.mono hb12.size)
    have hlc := hG.len
    have l3 := fun i hi => (cjp_lt hk6 (i := i) hi).1
    have hne := cjp_ne hk6
    have hSc : Square c := conj_square hSb hlb (l3 0 (by omega)) (l3 1 (by omega)) (l3 2 (by omega)) hne.1 hne.2.1 hne.2.2 hG
    have HI := Lib.hid (iso_law hSa hla (by omega) hSb hlb hr lr hk lk hz lz hF)
    have HM := Lib.hid (main_law hSa hla (by omega) hSb hlb hr lr hk lk hz lz hF hk6 hG)
    clear hb3 hb12 hF hG l3 hne hr lr hk lk hz lz
    go_wp2_with fail
    refine (impl_IsotopicSquares X n xc Y n yc a b 1500 w3 hoa.reads hob.reads (by omega) (by omega) (sq_cells hSa) (sq_cells hSb)).mono ?_
    rintro e w4 ⟨rfl, hb4⟩
    have hoa := hoa.below hb4
    have hoc := hoc.below hb4
    have hb14 := hb13.trans (hb4.mono hb13.size)
    have HI2 := HI.out
    generalize sqK a b false 1500 = K1 at *
    generalize sqR a b false 1500 = R1 at *
    clear HI hb4 hb13
    go_wp2_with fail
    refine (impl_SameMainClass X n xc Z n zc a c 1500 w4 hoa.reads hoc.reads (by omega) (by omega) (sq_cells hSa) (sq_cells hSc)).mono ?_
    rintro e w5 ⟨rfl, hb5⟩
    have hb15 := hb14.trans (hb5.mono hb14.size)
    have HM2 := HM.out
    generalize sqK a c true 1500 = K2 at *
    generalize sqR a c true 1500 = R2 at *
    clear HM hb5 hb14 hoa hob hoc
    have hsm := v8Small_any A0 n0 c0 bs w5 (EBytes.keep ha hb15) (by omega)
    clear ha hb hSa hSb hSc
    rcases HI2 with ⟨rfl, rfl⟩ | rfl <;> rcases HM2 with ⟨rfl, rfl⟩ | rfl
    all_goals
      go_wp2_with fail
      refine hsm.mono ?_
      rintro e w6 ⟨V, D, m, dc, vs, zss, rfl, hod, hD, hm, hb6⟩
      have hb16 := hb15.trans (hb6.mono hb15.size)
      have hlz := hod.lenZ
      subst hlz
      have hf := dg_few hD hm
      have hba := below_alloc w6 (.cells #[.int .i64 (V : Int), .slice D zss.length dc] 56)
      have Xd := Blk.new w6 56 #[.int .i64 (V : Int), .slice D zss.length dc]
      have hrd := hod.reads.keep hba
      have hb17 := hb16.trans (hba.mono hb16.size)
      have hcap := hod.os.cap
      obtain ⟨x0, x1⟩ := Xd.cells2
      have hdg := designGraph_any V D zss.length dc zss _ hrd hD
      rw [hf.1, hf.2.1, hf.2.2] at hdg
      clear hsm hb6 hb16 hba hod
      go_wp2_with fail
      refine hdg.mono ?_
      rintro e w7 ⟨GA, gn, gc, GF, gm, gd, rfl, hG, hgn, hgm, hb7⟩
      have Xd := Xd.after hb7
      have hrd := hrd.keep hb7
      have hb18 := hb17.trans (hb7.mono hb17.size)
      have hbg := below_alloc w7 (.cells #[.slice GA gn gc, .slice GF gm gd] 46)
      have Xg := Blk.new w7 46 #[.slice GA gn gc, .slice GF gm gd]
      have Xd := Xd.after hbg
      have hrd := hrd.keep hbg
      have hG := hG.keep hbg
      have hb19 := hb18.trans (hbg.mono hb18.size)
      obtain ⟨x0, x1⟩ := Xg.cells2
      have hdo := designOfGraph_at GA gn gc GF gm gd V zss.length (dsE V zss V) _ hG (design_bip hD hm)
      rw [design_back hD] at hdo
      clear hdg hb7 hb17 hb18 hbg
      go_wp2_with fail
      refine hdo.mono ?_
      rintro e w8 ⟨E, k, ec, rfl, hoe, hb8⟩
      have Xd := Xd.after hb8
      have hrd := hrd.keep hb8
      have hb20 := hb19.trans (hb8.mono hb19.size)
      have hbe := below_alloc w8 (.cells #[.int .i64 (V : Int), .slice E k ec] 56)
      have Xe := Blk.new w8 56 #[.int .i64 (V : Int), .slice E k ec]
      have Xd := Xd.after hbe
      have hrd := hrd.keep hbe
      have hre := hoe.reads.keep hbe
      have hcape := hoe.os_cap
      have hb21 := hb20.trans (hbe.mono hb20.size)
      obtain ⟨x0, x1⟩ := Xd.cells2
      obtain ⟨y0, y1⟩ := Xe.cells2
      have hsd := sameDesign_eq V E k ec D zss.length dc zss _ hre hrd (by omega) (by omega)
      clear hdo hb8 hb19 hb20 hbe hoe
      go_wp2_with fail
      refine hsd.mono ?_
      rintro e w9 ⟨rfl, hb9⟩
      have hb22 := hb21.trans (hb9.mono hb21.size)
      go_wp2
      go_ret
      exact ⟨rfl, hb22⟩
  · have h4' : (4 : Int) < n := by omega
    go_wp2
    go_ret
    exact ⟨rfl, hb1⟩
theorem law_Isotopic (A : Option Addr) (n c : Nat) (zs : List Int) (B : Option Addr) (m d : Nat) (ys : List Int) (w : World) (ha : RS EByte w A n zs) (hn : n ≤ c) (hc : c ≤ 9223372036854775807) (hb : RS EByte w B m ys) (hm : m ≤ d) (hd : d ≤ 9223372036854775807) :
    Calls Tryz.prog 5 #[.slice A n c, .slice B m d] w fun e w' => e = .returned (.bool true) ∧ Below w.heap.size w w' := by
  by_cases h1 : n ≤ 1048576
  · by_cases h2 : m ≤ 1048576
    · exact law_Isotopic_ok A n c zs B m d ys w ha h1 hb h2
    · go_enter Tryz.func5, Tryz.ntmps5
      go_wp2_with fail
      refine (v8Long_two A n c B m d _ h1 (by omega)).mono ?_
      rintro e w' ⟨rfl, rfl⟩
      go_wp2
      go_ret
      exact ⟨rfl, Below.refl _ _⟩
  · go_enter Tryz.func5, Tryz.ntmps5
    go_wp2_with fail
    refine (v8Long_one A n c B m d _ (by omega)).mono ?_
    rintro e w' ⟨rfl, rfl⟩
    go_wp2
    go_ret
    exact ⟨rfl, Below.refl _ _⟩
end Go.Proofs.YtdkbcjdimhgmnaaGreat
