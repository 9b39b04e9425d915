/- Small designs that a law draws. No condition beyond those stated. -/
import Derived.Test.YtdkbcjdimhgmnaaGreatRLE
set_option linter.unusedVariables false
set_option linter.unusedSimpArgs false
namespace Go.Proofs.YtdkbcjdimhgmnaaGreat
open Go.RowKit
theorem sko1 : (skoP 1).length = 7 ∧ ∀ r ∈ skoP 1, r.length ≤ 3 ∧ ∀ x ∈ r, 0 ≤ x ∧ x < 7 := by decide +kernel
set_option maxRecDepth 100000 in
set_option maxHeartbeats 1000000 in
theorem l11Make_7 (w : World) :
    Calls Tryz.prog 126 #[.int .i64 7] w (fun e w' => ∃ A c vs, e = .returned (.agg #[.int .i64 7, .slice A 7 c]) ∧ OB w' w.heap.size A 7 c vs (srtR (skoP 1)) ∧ Below w.heap.size w w') := by
  have R := Blk.new w 56 #[.int .i64 0, .slice none 0 0]
  have hb0 := below_alloc w (.cells #[.int .i64 0, .slice none 0 0] 56)
  go_enter Tryz.func126, Tryz.ntmps126
  go_wp2_with fail
  refine (l11Skolem_any 1 _ (by omega)).mono ?_
  rintro e w1 ⟨A, n, c, rfl, ho, hb⟩
  obtain rfl : n = 7 := by rw [← ho.len, sko1.1]
  have R := R.after hb
  have hb1 := below_then hb0 hb
  have hrow : Hid (∀ i, i < 7 → (row (skoP 1) i).length ≤ 1048576) := Lib.hid fun i hi => by
    have := (sko1.2 (row (skoP 1) i) (by rw [row_get (by rw [sko1.1]; exact hi)]; exact List.getElem_mem _)).1
    omega
  have hso := l10Sort_any A 7 c (skoP 1) _ ho.reads (by omega) hrow.out
  have hRl := R.lt
  clear hb
  go_wp2_with fail
  refine hso.mono ?_
  rintro e w5 ⟨A5, c5, v5, rfl, ho5, hb5⟩
  have R5 := R.after hb5
  have hb6 := hb1.trans (hb5.mono hb1.size)
  clear hso R hb1 hb5 ho
  have y0 := R5.cell 0
  have y1 := R5.cell 1
  have f0 := R5.frozen 0
  have f1 := R5.frozen 1
  have YF := (R5.set_ 0 (.int .i64 7)).set_ 1 (.slice A5 7 c5)
  have z0 := YF.cell 0
  have z1 := YF.cell 1
  have ho6 := ((ho5.setLow (p := ⟨w.heap.size, 0, none⟩) hRl (.int .i64 7)).setLow (p := ⟨w.heap.size, 1, none⟩) hRl (.slice A5 7 c5)).more (B' := w.heap.size) (by omega)
  have hb7 := (hb6.setCell (p := ⟨w.heap.size, 0, none⟩) (by simp) (.int .i64 7)).setCell (p := ⟨w.heap.size, 1, none⟩) (by simp) (.slice A5 7 c5)
  clear YF R5 ho5 hb6
  go_wp2
  exact bodyPost_ret (v := .agg #[.int .i64 7, .slice A5 7 c5]) (by simp [results, Tryz.results126, go_sem, z0, z1]) rfl ⟨A5, c5, v5, rfl, ho6, hb7⟩
def AnyD (V : Int) (zss : List (List Int)) : Prop := I64 V ∧ zss.length ≤ 200
theorem bent_any {V : Int} {zss : List (List Int)} (h : BentD V zss) : AnyD V zss := by
  rcases h with ⟨V0, z0, hD, hh⟩ | ⟨rfl, m, hm, rfl⟩
  · have := draw_shape hD
    rcases hh with ⟨rfl, rfl⟩ | ⟨hV, rfl⟩ | ⟨rfl, rfl⟩ | ⟨rfl, rfl⟩ | ⟨rfl, rfl⟩
    · exact ⟨⟨by omega, by omega⟩, by omega⟩
    · exact ⟨⟨by omega, by omega⟩, by omega⟩
    · exact ⟨⟨by omega, by omega⟩, by simp; omega⟩
    · exact ⟨⟨by omega, by omega⟩, by simp; omega⟩
    · exact ⟨⟨by omega, by omega⟩, by simp; omega⟩
  · exact ⟨⟨by omega, by omega⟩, by simp; omega⟩
def lenV' (v : Value) : Nat := match v with | .slice _ n _ => n | _ => 0
theorem RR.drop1 {w : World} {ad : Addr} {n : Nat} {zss : List (List Int)} (h : RR w (some ad) n zss) {k : Nat} (hk : k ≤ n) : RR w (some (ad.add k)) (n - k) (zss.drop k) := by
  refine ⟨by rw [List.length_drop, h.len], fun j z hz => ?_⟩
  rw [List.getElem?_drop] at hz
  obtain ⟨ad', v, ha, hc, r⟩ := h.2 (k + j) z hz
  cases ha
  refine ⟨ad.add k, v, rfl, ?_, r⟩
  have : (ad.add k).add j = ad.add (k + j) := by
    unfold Addr.add
    by_cases hk : k = 0
    · subst hk; simp
    · by_cases hj : j = 0
      · subst hj; simp
      · simp [hk, hj, Nat.add_assoc]
  rw [this]; exact hc
set_option maxRecDepth 100000 in
set_option maxHeartbeats 1000000 in
theorem l23Draw_any (g p : Nat) (w : World) (hs : Src w g p) (hp : p ≤ 17592186044416) :
    Calls Tryz.prog 66 #[.pointer (some ⟨g, 0, none⟩)] w (RetDs AnyD w g p 200) := by
  have S := (SrW.start hs).step (below_alloc w (.cells #[.int .i64 0, .slice none 0 0] 56))
  have R := Blk.new w 56 #[.int .i64 0, .slice none 0 0]
  clear hs
  have hgl := S.gl
  go_enter Tryz.func66, Tryz.ntmps66
  go_wp2_with fail
  refine (pick_any g p 4 _ S.src (by omega) (by omega) (by omega)).mono ?_
  rintro e w1 ⟨x, q, rfl, x0, x1, hq, hs1, hg1⟩
  have R := R.grown hg1 (fun e => by injection e with e; omega)
  have S := S.next hs1 hg1
  clear hs1 hg1
  by_cases e0 : x = 0
  · subst e0
    go_wp2_with fail
    refine (l11Make_7 _).mono ?_
    rintro e w2 ⟨A, c, vs, rfl, ho, hb⟩
    have hsz1 := S.size
    have R := R.after hb
    have S := S.step hb
    have hsz2 := S.size
    have X := Blk.new w2 56 #[.int .i64 7, .slice A 7 c]
    have hba := below_alloc w2 (.cells #[.int .i64 7, .slice A 7 c] 56)
    have R := R.after hba
    have S := S.step hba
    have hr := ho.reads.keep hba
    have hgw := S.size
    clear hb
    go_wp2_with fail
    refine (l04DrawPerm_any g q 7 _ S.src (by omega) (by omega)).mono ?_
    rintro e w3 ⟨P, pc, pz, q3, rfl, hop, hlp, hpp, S3, hq3⟩
    have X := X.grown S3.grown (fun e => by injection e with e; omega)
    have R := R.grown S3.grown (fun e => by injection e with e; omega)
    have S := S.then_ S3
    have hr := (ho.below hba).keptB S3.grown (by omega)
    have hr := hr.reads
    have hmem : ∀ i, i < 7 → row (srtR (skoP 1)) i ∈ skoP 1 := fun i hi => (srtR_perm _).mem_iff.1 (by rw [row_get (by rw [srtR_len, sko1.1]; exact hi)]; exact List.getElem_mem _)
    have him := l10Image_any w2.heap.size 7 A 7 c (srtR (skoP 1)) P 7 pc pz w3 X hr hop.reads (fun k hk x hx => by have := (sko1.2 _ (hmem k hk)).2 x hx; omega) (fun k hk => by have := (sko1.2 _ (hmem k hk)).1; omega) (by omega) (by omega)
    have hRl := R.lt
    have HP : AnyD 7 (srtR ((srtR (skoP 1)).map (imgR pz))) := ⟨⟨by omega, by omega⟩, by rw [srtR_len, List.length_map, srtR_len, sko1.1]; omega⟩
    clear hr hop hmem ho X hba
    go_wp2_with fail
    refine him.mono ?_
    rintro e w5 ⟨A5, c5, v5, rfl, ho5, hb5⟩
    have R5 := R.after hb5
    have S5 := S.step hb5
    clear him R S hb5
    obtain ⟨y0, y1, f0, f1, z0, z1, HF⟩ := retD_put (Φ := AnyD) (g := g) (p := p) (k := 200) (V := 7) R5 (Nat.le_refl _) hRl ho5 S5 (by omega) HP
    go_wp2
    exact bodyPost_ret (v := .agg #[.int .i64 7, .slice A5 7 c5]) (by simp [results, Tryz.results66, go_sem, z0, z1]) rfl HF
  by_cases e1 : x = 1
  · subst e1
    go_wp2_with fail
    refine (l10Bent_any g q _ S.src (by omega)).mono ?_
    rintro e w2 ⟨V, A, n, c, vs, zss, q2, rfl, ho, S2, hq2, hK⟩
    have hRl := R.lt
    have R2 := R.grown S2.grown (fun e => by injection e with e; omega)
    have S3 := S.then_ S2
    clear R S S2
    obtain ⟨y0, y1, f0, f1, z0, z1, HF⟩ := retD_put (Φ := AnyD) (g := g) (p := p) (k := 200) (V := V) R2 (Nat.le_refl _) hRl ho S3 (by omega) (bent_any hK)
    go_wp2
    exact bodyPost_ret (v := .agg #[.int .i64 V, .slice A n c]) (by simp [results, Tryz.results66, go_sem, z0, z1]) rfl HF
  · have e0' : (x == 0) = false := by simp [e0]
    have e1' : (x == 1) = false := by simp [e1]
    clear e0 e1
    go_wp2_with fail
    refine (pick_any g q 5 _ S.src (by omega) (by omega) (by omega)).mono ?_
    rintro e w2 ⟨y, q2, rfl, y0, y1, hq2, hs2, hg2⟩
    have R := R.grown hg2 (fun e => by injection e with e; omega)
    have S := S.next hs2 hg2
    obtain ⟨y, rfl⟩ := Int.eq_ofNat_of_zero_le y0
    have hx1 : (2 : Int) + (y : Int) = ((y + 2 : Nat) : Int) := by omega
    have hblk := l10DrawBlocks_any g q2 (y + 2) w2 S.src (by omega) (by omega) (by omega)
    have hx8 : y + 2 ≤ 7 := by omega
    clear hs2 hg2 y0 y1
    generalize y + 2 = pts at *
    go_wp2_with fail
    refine hblk.mono ?_
    rintro e w3 ⟨A, k, c, zss, q3, rfl, D, hB, hk8, hq3⟩
    have R := R.grown D.s.grown (fun e => by injection e with e; omega)
    have S := S.then_ D.s
    have hr := D.o.reads
    have hcap := D.o.os_cap
    have hlen : ∀ r ∈ zss, r.length ≤ 4 := fun r hr => (hB r hr).2.1
    clear hblk hx1 D hB
    go_wp2
    go_loop [5] (fun lv => ∃ (A : Option Addr) (k c : Nat) (zss : List (List Int)), lv = .slice A k c ∧ RR w3 A k zss ∧ k ≤ 8 ∧ k ≤ c ∧ c ≤ 9223372036854775807 ∧ Hid (∀ r ∈ zss, r.length ≤ 4)) (fun lv => lenV' lv)
    case atStart => exact ⟨A, k, c, zss, rfl, hr, hk8, hcap.1, hcap.2, Lib.hid hlen⟩
    case round =>
      clear hr hk8 hcap hlen
      obtain ⟨A, k, c, zss, rfl, hr, hk8, hkc, hc, hlen⟩ := hrel
      by_cases h6 : 6 < k
      · obtain ⟨ad, B1, m1, c1, rfl, -⟩ := hr.get (k := 0) (by omega)
        have hr1 := RR.drop1 hr (k := 1) (by omega)
        have h1c : 1 < c := by omega
        have hl2 : Hid (∀ r ∈ zss.drop 1, r.length ≤ 4) := Lib.hid fun r hr => hlen.out r (List.mem_of_mem_drop hr)
        have h6' : (6 : Int) < k := by omega
        clear hr hlen
        go_wp2
        go_round
        case rel => exact ⟨some (ad.add 1), k - 1, c - 1, zss.drop 1, by simp [Addr.add], hr1, by omega, by omega, by omega, hl2⟩
        case measure => simp only [lenV']; omega
      · have h6' : ¬ (6 : Int) < k := by omega
        have hrow : Hid (∀ i, i < k → (row zss i).length ≤ 1048576) := Lib.hid fun i hi => by
          have := hlen.out (row zss i) (by rw [row_get (by rw [hr.len]; exact hi)]; exact List.getElem_mem _)
          omega
        have hso := l10Sort_any A k c zss _ hr (by omega) hrow.out
        have HP : AnyD (pts : Int) (srtR zss) := ⟨⟨by omega, by omega⟩, by rw [srtR_len, hr.len]; omega⟩
        have hRl := R.lt
        go_wp2_with fail
        refine hso.mono ?_
        rintro e w5 ⟨A5, c5, v5, rfl, ho5, hb5⟩
        have R5 := R.after hb5
        have S5 := S.step hb5
        clear hso R S hb5 hr
        obtain ⟨y0, y1, f0, f1, z0, z1, HF⟩ := retD_put (Φ := AnyD) (g := g) (p := p) (k := 200) (V := (pts : Int)) R5 (Nat.le_refl _) hRl ho5 S5 (by omega) HP
        go_wp2
        exact bodyPost_ret (v := .agg #[.int .i64 (pts : Int), .slice A5 k c5]) (by simp [results, Tryz.results66, go_sem, z0, z1]) rfl HF
theorem fix_design : Design 3 [[0, 1], [0, 2]] := by
  refine ⟨by omega, by omega, by decide, fun i hi => ?_, fun i hi => ?_⟩
  · have : i = 0 ∨ i = 1 := by simp at hi; omega
    rcases this with rfl | rfl
    · refine ⟨by decide, ⟨fun k hk => ?_, fun k hk => ?_⟩⟩
      · have : k = 0 ∨ k = 1 := by simp [row] at hk; omega
        rcases this with rfl | rfl <;> decide
      · have : k = 0 := by simp [row] at hk; omega
        subst this; decide
    · refine ⟨by decide, ⟨fun k hk => ?_, fun k hk => ?_⟩⟩
      · have : k = 0 ∨ k = 1 := by simp [row] at hk; omega
        rcases this with rfl | rfl <;> decide
      · have : k = 0 := by simp [row] at hk; omega
        subst this; decide
  · have : i = 0 := by simp at hi; omega
    subst this; decide
set_option maxRecDepth 100000 in
set_option maxHeartbeats 1000000 in
theorem v8Small_any (A : Option Addr) (n c : Nat) (bs : List Int) (w : World) (ha : RS EByte w A n bs) (hn : n ≤ 9223372036854775807) :
    Calls Tryz.prog 24 #[.slice A n c] w (fun e w' => ∃ (V : Nat) (A' : Option Addr) (m d : Nat) (vs : List Sl) (zss : List (List Int)), e = .returned (.agg #[.int .i64 V, .slice A' m d]) ∧ OB w' w.heap.size A' m d vs zss ∧ Design (V : Int) zss ∧ m ≤ 13 ∧ Below w.heap.size w w') := by
  have R := Blk.new w 56 #[.int .i64 0, .slice none 0 0]
  have hb0 := below_alloc w (.cells #[.int .i64 0, .slice none 0 0] 56)
  have hfr := l00From_any A n c bs _ (EBytes.keep ha hb0) hn
  rw [show (w.alloc (.cells #[.int .i64 0, .slice none 0 0] 56)).heap.size = w.heap.size + 1 by simp] at hfr
  go_enter Tryz.func24, Tryz.ntmps24
  go_wp2_with fail
  refine hfr.mono ?_
  rintro e w1 ⟨rfl, hs1, hb1⟩
  have R := R.after (by rw [show (w.alloc (.cells #[.int .i64 0, .slice none 0 0] 56)).heap.size = w.heap.size + 1 by simp]; exact hb1)
  have hb01 : Below w.heap.size w w1 := hb0.trans (hb1.mono (by omega))
  have S := SrW.start hs1
  clear hfr hb0 hb1 hs1
  go_wp2_with fail
  refine (l23Draw_any (w.heap.size + 1) 0 w1 S.src (by omega)).mono ?_
  rintro e w2 ⟨V, A2, m, d, vs, zss, q2, rfl, ho, S2, hq2, hP⟩
  have R := R.grown S2.grown (fun e => by injection e with e; omega)
  have hg2 : Below w.heap.size w w2 := ⟨S2.grown.os.trans hb01.os, S2.grown.tape.trans hb01.tape, S2.grown.output.trans hb01.output, Nat.le_trans hb01.size S2.size, fun j hj => by
    rw [S2.grown.block j (Nat.lt_of_lt_of_le hj hb01.size) (fun e => by injection e with e; omega)]
    exact hb01.block j hj⟩
  have hw1 : w.heap.size + 1 < w1.heap.size := S.gl
  have hm : m ≤ 200 := by have := ho.lenZ; have := hP.2; omega
  have hV := hP.1
  have hba := below_alloc w2 (.cells #[.int .i64 V, .slice A2 m d] 56)
  have X := Blk.new w2 56 #[.int .i64 V, .slice A2 m d]
  have ho2 := (ho.below hba).more (B' := w.heap.size + 1) (by omega)
  have R := R.after hba
  have hb2 := hg2.trans (hba.mono hg2.size)
  have hok := l10Ok_any w2.heap.size V A2 m d zss _ X ho2.reads (by omega)
  clear S S2 hb01 hg2 ho hba
  cases hh : tB (Design V zss) with
  | false =>
    rw [hh] at hok
    go_wp2_with fail
    refine hok.mono ?_
    rintro e w3 ⟨rfl, q, rfl⟩
    have hdr := below_drewn (w2.alloc (.cells #[.int .i64 V, .slice A2 m d] 56)) q
    have R := R.after hdr
    have hb3 := hb2.trans (hdr.mono hb2.size)
    clear hok X ho2 hdr
    generalize (w2.alloc (.cells #[.int .i64 V, .slice A2 m d] 56)).drewN q = W at *
    have F := lit_OB W (w.heap.size + 1) [[0, 1], [0, 2]] (by have := R.lt; omega) (by decide) (fun r hr => by
      simp only [List.mem_cons, List.not_mem_nil, or_false] at hr
      rcases hr with rfl | rfl <;> exact ⟨fun x hx => by simp at hx; unfold I64; omega, by decide⟩)
    have b1 := allocs_below 2 [[0, 1], [0, 2]] W
    have b2 := below_then b1 (below_alloc _ (.cells ((hdrs W.heap.size [[0, 1], [0, 2]]).map slv).toArray 22))
    have R5 := R.after b2
    have hb5 := hb3.trans (b2.mono hb3.size)
    have y0 := R5.cell 0
    have y1 := R5.cell 1
    have f0 := R5.frozen 0
    have f1 := R5.frozen 1
    have YF := (R5.set_ 0 (.int .i64 3)).set_ 1 (.slice (some ⟨W.heap.size + 1 + 1, 0, none⟩) 2 2)
    have z0 := YF.cell 0
    have z1 := YF.cell 1
    have F2 := ((F.setLow (p := ⟨w.heap.size, 0, none⟩) (Nat.lt_succ_self _) (.int .i64 3)).setLow (p := ⟨w.heap.size, 1, none⟩) (Nat.lt_succ_self _) (.slice (some ⟨W.heap.size + 1 + 1, 0, none⟩) 2 2)).more (B' := w.heap.size) (by omega)
    have hb7 := (hb5.setCell (p := ⟨w.heap.size, 0, none⟩) (by simp) (.int .i64 3)).setCell (p := ⟨w.heap.size, 1, none⟩) (by simp) (.slice (some ⟨W.heap.size + 1 + 1, 0, none⟩) 2 2)
    clear F YF R5 R b1 b2 hb3 hb5
    simp only [allocs, hdrs, ints, List.map_cons, List.map_nil, slv, List.length_cons, List.length_nil, Nat.zero_add, Nat.reduceAdd] at y0 y1 f0 f1 z0 z1 F2 hb7
    go_wp2
    exact bodyPost_ret (v := .agg #[.int .i64 3, .slice (some ⟨W.heap.size + 1 + 1, 0, none⟩) 2 2]) (by simp [results, Tryz.results24, go_sem, z0, z1]) rfl ⟨3, _, 2, 2, _, [[0, 1], [0, 2]], rfl, F2, fix_design, by omega, hb7⟩
  | true =>
    rw [hh] at hok
    have hD := tB_true.1 hh
    obtain ⟨VN, rfl⟩ := Int.eq_ofNat_of_zero_le (show 0 ≤ V by have := hD.v1; omega)
    have HD := Lib.hid hD
    clear hD hh
    go_wp2_with fail
    refine hok.mono ?_
    rintro e w3 ⟨rfl, q, rfl⟩
    have hdr := below_drewn (w2.alloc (.cells #[.int .i64 (VN : Int), .slice A2 m d] 56)) q
    have R := R.after hdr
    have X := X.after hdr
    have ho3 := ho2.below hdr
    have hb3 := hb2.trans (hdr.mono hb2.size)
    clear hok ho2 hdr hb2
    generalize (w2.alloc (.cells #[.int .i64 (VN : Int), .slice A2 m d] 56)).drewN q = W at *
    obtain ⟨x0, x1⟩ := X.cells2
    by_cases h13 : m ≤ 13
    · have h13' : ¬ (13 : Int) < m := by omega
      have y0 := R.cell 0
      have y1 := R.cell 1
      have f0 := R.frozen 0
      have f1 := R.frozen 1
      have YF := (R.set_ 0 (.int .i64 (VN : Int))).set_ 1 (.slice A2 m d)
      have z0 := YF.cell 0
      have z1 := YF.cell 1
      have F2 := ((ho3.setLow (p := ⟨w.heap.size, 0, none⟩) (Nat.lt_succ_self _) (.int .i64 (VN : Int))).setLow (p := ⟨w.heap.size, 1, none⟩) (Nat.lt_succ_self _) (.slice A2 m d)).more (B' := w.heap.size) (by omega)
      have hb7 := (hb3.setCell (p := ⟨w.heap.size, 0, none⟩) (by simp) (.int .i64 (VN : Int))).setCell (p := ⟨w.heap.size, 1, none⟩) (by simp) (.slice A2 m d)
      clear YF R X ho3 hb3
      go_wp2
      exact bodyPost_ret (v := .agg #[.int .i64 (VN : Int), .slice A2 m d]) (by simp [results, Tryz.results24, go_sem, z0, z1]) rfl ⟨VN, _, m, d, _, zss, rfl, F2, HD.out, h13, hb7⟩
    · have h13' : (13 : Int) < m := by omega
      have F := lit_OB W (w.heap.size + 1) [[0, 1], [0, 2]] (by have := R.lt; omega) (by decide) (fun r hr => by
        simp only [List.mem_cons, List.not_mem_nil, or_false] at hr
        rcases hr with rfl | rfl <;> exact ⟨fun x hx => by simp at hx; unfold I64; omega, by decide⟩)
      have b1 := allocs_below 2 [[0, 1], [0, 2]] W
      have b2 := below_then b1 (below_alloc _ (.cells ((hdrs W.heap.size [[0, 1], [0, 2]]).map slv).toArray 22))
      have R5 := R.after b2
      have hb5 := hb3.trans (b2.mono hb3.size)
      have y0 := R5.cell 0
      have y1 := R5.cell 1
      have f0 := R5.frozen 0
      have f1 := R5.frozen 1
      have YF := (R5.set_ 0 (.int .i64 3)).set_ 1 (.slice (some ⟨W.heap.size + 1 + 1, 0, none⟩) 2 2)
      have z0 := YF.cell 0
      have z1 := YF.cell 1
      have F2 := ((F.setLow (p := ⟨w.heap.size, 0, none⟩) (Nat.lt_succ_self _) (.int .i64 3)).setLow (p := ⟨w.heap.size, 1, none⟩) (Nat.lt_succ_self _) (.slice (some ⟨W.heap.size + 1 + 1, 0, none⟩) 2 2)).more (B' := w.heap.size) (by omega)
      have hb7 := (hb5.setCell (p := ⟨w.heap.size, 0, none⟩) (by simp) (.int .i64 3)).setCell (p := ⟨w.heap.size, 1, none⟩) (by simp) (.slice (some ⟨W.heap.size + 1 + 1, 0, none⟩) 2 2)
      clear F YF R5 R b1 b2 hb3 hb5 X ho3
      simp only [allocs, hdrs, ints, List.map_cons, List.map_nil, slv, List.length_cons, List.length_nil, Nat.zero_add, Nat.reduceAdd] at y0 y1 f0 f1 z0 z1 F2 hb7
      go_wp2
      exact bodyPost_ret (v := .agg #[.int .i64 3, .slice (some ⟨W.heap.size + 1 + 1, 0, none⟩) 2 2]) (by simp [results, Tryz.results24, go_sem, z0, z1]) rfl ⟨3, _, 2, 2, _, [[0, 1], [0, 2]], rfl, F2, fix_design, by omega, hb7⟩
set_option maxHeartbeats 400000 in
theorem v8Long_no (A : Option Addr) (n c : Nat) (B : Option Addr) (m d : Nat) (w : World) (hn : n ≤ 1048576) (hm : m ≤ 1048576) : Calls Tryz.prog 12 #[.slice A n c, .slice B m d] w fun e w' => e = .returned (.bool false) ∧ w = w' := by
  have h : ¬ (n : Int) > 1048576 := by omega
  have h2 : ¬ (m : Int) > 1048576 := by omega
  go_enter Tryz.func12, Tryz.ntmps12
  go_wp2
  go_ret
  exact ⟨rfl, rfl⟩
set_option maxHeartbeats 400000 in
theorem v8Long_one (A : Option Addr) (n c : Nat) (B : Option Addr) (m d : Nat) (w : World) (hn : 1048576 < n) : Calls Tryz.prog 12 #[.slice A n c, .slice B m d] w fun e w' => e = .returned (.bool true) ∧ w = w' := by
  have h : (n : Int) > 1048576 := by omega
  go_enter Tryz.func12, Tryz.ntmps12
  go_wp2
  go_ret
  exact ⟨rfl, rfl⟩
set_option maxHeartbeats 400000 in
theorem v8Long_two (A : Option Addr) (n c : Nat) (B : Option Addr) (m d : Nat) (w : World) (hn : n ≤ 1048576) (hm : 1048576 < m) : Calls Tryz.prog 12 #[.slice A n c, .slice B m d] w fun e w' => e = .returned (.bool true) ∧ w = w' := by
  have h : ¬ (n : Int) > 1048576 := by omega
  have h2 : (m : Int) > 1048576 := by omega
  go_enter Tryz.func12, Tryz.ntmps12
  go_wp2
  go_ret
  exact ⟨rfl, rfl⟩
set_option maxHeartbeats 1000000 in
theorem sameDesign_eq (V : Int) (A : Option Addr) (n c : Nat) (B : Option Addr) (m d : Nat) (zss : List (List Int)) (w : World) (ha : RR w A n zss) (hb : RR w B m zss) (hn : n ≤ 9223372036854775807) (hm : m ≤ 9223372036854775807) :
    Calls Tryz.prog 27 #[.agg #[.int .i64 V, .slice A n c], .agg #[.int .i64 V, .slice B m d]] w fun e w' => e = .returned (.bool true) ∧ Below w.heap.size w w' := by
  have hb1 := below_then (below_alloc w (.cells #[.int .i64 V, .slice A n c] 56)) (below_alloc _ (.cells #[.int .i64 V, .slice B m d] 56))
  have h := l10Same_any A B n m c d zss zss _ (ha.keep hb1) (hb.keep hb1) hn hm
  rw [show decide (zss = zss) = true by simp] at h
  go_enter Tryz.func27, Tryz.ntmps27
  go_wp2_with fail
  refine h.mono ?_
  rintro e w' ⟨rfl, q, rfl⟩
  have hb2 := hb1.trans ((below_drewn _ q).mono hb1.size)
  clear h hb1
  go_wp2
  go_ret
  exact ⟨rfl, hb2⟩
end Go.Proofs.YtdkbcjdimhgmnaaGreat
