/- The supports of words; a graph that grows. No condition beyond those stated. -/
import Derived.Test.YtdkbcjdimhgmnaaGreatQKN
import Derived.Test.YtdkbcjdimhgmnaaGreatQHM
set_option linter.unusedVariables false
set_option linter.unusedSimpArgs false
namespace Go.Proofs.YtdkbcjdimhgmnaaGreat
open Go.RowKit
def supW (z : List Int) : List Int := ((List.range z.length).filter fun i => nth z i != 0).map fun (i : Nat) => (i : Int)
theorem mem_supW {z : List Int} {x : Nat} : (x : Int) ∈ supW z ↔ x < z.length ∧ nth z x ≠ 0 := by
  unfold supW
  simp only [List.mem_map, List.mem_filter, List.mem_range]
  constructor
  · rintro ⟨a, ⟨h1, h2⟩, h3⟩
    obtain rfl : a = x := by omega
    exact ⟨h1, by simpa using h2⟩
  · rintro ⟨h1, h2⟩
    exact ⟨x, ⟨h1, by simpa using h2⟩, rfl⟩
theorem supW_len (z : List Int) : (supW z).length ≤ z.length := by
  unfold supW
  rw [List.length_map]
  exact Nat.le_trans (List.length_filter_le _ _) (by simp)
theorem supW_rise (z : List Int) : (supW z).Pairwise (fun x y => x < y) := by
  unfold supW
  rw [List.pairwise_map]
  exact (List.pairwise_lt_range.filter _).imp fun {i j} h => by omega
theorem supW_bd (z : List Int) : ∀ x ∈ supW z, 0 ≤ x ∧ x < (z.length : Int) := fun x hx => by
  unfold supW at hx
  obtain ⟨a, ha, rfl⟩ := List.mem_map.1 hx
  have := List.mem_range.1 (List.mem_filter.1 ha).1
  omega
def supsW (L : List (List Int)) : List (List Int) := (L.drop 1).map supW
theorem supsW_len (L : List (List Int)) : (supsW L).length = L.length - 1 := by simp [supsW]
theorem supsW_row {L : List (List Int)} {j : Nat} (h : j + 1 < L.length) : row (supsW L) j = supW (row L (j + 1)) := by
  rw [row_get (by rw [supsW_len]; omega), row_get h]
  unfold supsW
  rw [List.getElem_map, List.getElem_drop]
  congr 2
  exact Nat.add_comm 1 j
theorem supsW_sets {L : List (List Int)} {n : Nat} (h : ∀ i, i < L.length → (row L i).length = n) (hn : n ≤ 32) (hl : L.length ≤ 257) : Sets n (supsW L) := by
  refine ⟨by omega, by rw [supsW_len]; omega, fun i hi => ?_, fun i hi => ?_⟩
  all_goals rw [supsW_len] at hi; rw [supsW_row (by omega)]
  · refine ⟨supW_rise _, fun x hx => ?_⟩
    have := supW_bd _ x hx
    rw [h _ (by omega)] at this
    exact this
  · have := supW_len (row L (i + 1))
    rw [h _ (by omega)] at this
    omega
structure GV (w0 wr : World) (gb : Nat) (A : Option Addr) (n c : Nat) (F : Option Addr) (m d : Nat) (cs : List Int) (es : List Ed) : Prop where
  b : Below w0.heap.size w0 wr
  x : Blk wr gb 46 #[.slice A n c, .slice F m d]
  oa : OI wr w0.heap.size 2 A n c cs
  of_ : OE wr w0.heap.size 113 F m d es
  lg : w0.heap.size ≤ gb
section
variable {w0 wr w' : World} {gb : Nat} {A : Option Addr} {n c : Nat} {F : Option Addr} {m d : Nat} {cs : List Int} {es : List Ed}
theorem GV.step (h : GV w0 wr gb A n c F m d cs es) (hb : Below wr.heap.size wr w') : GV w0 w' gb A n c F m d cs es :=
  ⟨h.b.trans (hb.mono h.b.size), h.x.after hb, h.oa.below hb, h.of_.below hb, h.lg⟩
theorem GV.edges (h : GV w0 wr gb A n c F m d cs es) (hg : wr.grownBy w' (blk F)) {F' : Option Addr} {m' d' : Nat} {es' : List Ed} (ho : OE w' w0.heap.size 113 F' m' d' es') :
    GV w0 (w'.setCell ⟨gb, 1, none⟩ (.slice F' m' d')) gb A n c F' m' d' cs es' := by
  have hlg := h.lg
  have hx := h.x.grown hg (OS.typed' h.of_.os h.x (by decide))
  have hoa := h.oa.kept hg (OS.typed h.oa.os h.of_.os (by decide))
  have hb := below_own h.b hg h.b.size (fun b hb => (h.of_.os.lt hb).1)
  refine ⟨Below.setCell hb (by show w0.heap.size ≤ gb; omega) _, ?_, ?_, ?_, hlg⟩
  · have := hx.set_ 1 (.slice F' m' d')
    simpa using this
  · exact hoa.kept grown_set (.inr fun e => OS.typed' hoa.os hx (by decide) e.symm)
  · exact ho.kept grown_set (.inr fun e => OS.typed' ho.os hx (by decide) e.symm)
theorem GV.colors (h : GV w0 wr gb A n c F m d cs es) (hg : wr.grownBy w' (blk A)) {A' : Option Addr} {n' c' : Nat} {cs' : List Int} (ho : OI w' w0.heap.size 2 A' n' c' cs') :
    GV w0 (w'.setCell ⟨gb, 0, none⟩ (.slice A' n' c')) gb A' n' c' F m d cs' es := by
  have hlg := h.lg
  have hx := h.x.grown hg (OS.typed' h.oa.os h.x (by decide))
  have hof := h.of_.kept hg (OS.typed h.of_.os h.oa.os (by decide))
  have hb := below_own h.b hg h.b.size (fun b hb => (h.oa.os.lt hb).1)
  refine ⟨Below.setCell hb (by show w0.heap.size ≤ gb; omega) _, ?_, ?_, ?_, hlg⟩
  · have := hx.set_ 0 (.slice A' n' c')
    simpa using this
  · exact ho.kept grown_set (.inr fun e => OS.typed' ho.os hx (by decide) e.symm)
  · exact hof.kept grown_set (.inr fun e => OS.typed' hof.os hx (by decide) e.symm)
end
def cdB (p : Int) (k : Nat) (f : List Int) (m : Nat) (rows : List (List Int)) : List (List Int) := supsW (wordsTo p k f 2 m rows rows.length)
def cdC (p : Int) (k : Nat) (f : List Int) (m : Nat) (rows : List (List Int)) : List Int := if p ^ k = 2 then dgC m (cdB p k f m rows) else []
def cdE (p : Int) (k : Nat) (f : List Int) (m : Nat) (rows : List (List Int)) : List Ed := if p ^ k = 2 then dgE m (cdB p k f m rows) else []
def cdK (p : Int) (k : Nat) (f : List Int) (m : Nat) (rows : List (List Int)) : Int := if p ^ k = 2 then dgK m (cdB p k f m rows) else 6
theorem cd_yes {p : Int} {k : Nat} {f : List Int} {m : Nat} {rows : List (List Int)} (h : p ^ k = 2) : cdC p k f m rows = dgC m (cdB p k f m rows) ∧ cdE p k f m rows = dgE m (cdB p k f m rows) ∧ cdK p k f m rows = dgK m (cdB p k f m rows) := by
  simp [cdC, cdE, cdK, h]
theorem cd_no {p : Int} {k : Nat} {f : List Int} {m : Nat} {rows : List (List Int)} (h : ¬ p ^ k = 2) : cdC p k f m rows = [] ∧ cdE p k f m rows = [] ∧ cdK p k f m rows = 6 := by
  simp [cdC, cdE, cdK, h]
theorem supW_one {z : List Int} {x : Nat} (h : VecQ 2 z) (hx : x < z.length) : (nth z x = 1 → (supW z).contains (x : Int) = true) ∧ (¬ nth z x = 1 → (supW z).contains (x : Int) = false) := by
  have := h x hx
  constructor
  · intro h1
    simpa using mem_supW.2 ⟨hx, by omega⟩
  · intro h1
    have : ¬ (x : Int) ∈ supW z := fun hm => (mem_supW.1 hm).2 (by omega)
    simpa using this
theorem cdC_at0 {v m k : Nat} (h : k < v) : (dsC v m).take k ++ [0] = (dsC v m).take (k + 1) := by
  rw [List.take_succ_eq_append_getElem (by rw [dsC_len]; omega)]
  congr 2
  unfold dsC
  rw [List.getElem_append_left (by simpa using h), List.getElem_replicate]
theorem cdC_at1 {v m k : Nat} (h : k < m) : (dsC v m).take (v + k) ++ [1] = (dsC v m).take (v + k + 1) := by
  rw [List.take_succ_eq_append_getElem (by rw [dsC_len]; omega)]
  congr 2
  unfold dsC
  rw [List.getElem_append_right (by simp), List.getElem_replicate]
set_option maxRecDepth 100000 in
set_option maxHeartbeats 4000000 in
theorem l23Code_any (g : Nat) (p : Int) (k0 : Nat) (A : Option Addr) (n c : Nat) (f : List Int) (M : Option Addr) (r rc m : Nat) (rows : List (List Int)) (q : Nat) (w : World) (h : CAt w g p k0 A n c f M r rc rows) (hf : FldOk p k0 f) (hq : p ^ k0 = (q : Int)) (hm : MatQ (p ^ k0) m rows) (hr1 : 1 ≤ r) (hr8 : r ≤ 8) (hm32 : m ≤ 32) :
    Calls Tryz.prog 38 #[.pointer (some ⟨g, 0, none⟩)] w (fun e w' => ∃ A' n' c' F' m' d', e = .returned (.tuple #[.agg #[.slice A' n' c', .slice F' m' d'], .int .i64 (cdK p k0 f m rows)]) ∧ OI w' w.heap.size 2 A' n' c' (cdC p k0 f m rows) ∧ OE w' w.heap.size 113 F' m' d' (cdE p k0 f m rows) ∧ n' ≤ 64 ∧ m' ≤ 512 ∧ Below w.heap.size w w') := by
  obtain ⟨p2, p61, k1, k6, hq64, hq2⟩ := hf.nums
  obtain ⟨ii, hi, hi0, hi1, hi2⟩ := info_parts graph_info
  obtain ⟨ie, he, he0, he1, he2⟩ := info_parts edge_info
  have HL := Lib.hid h.rr.len
  have HC := Lib.hid h
  have hb1 := below_alloc w (.cells #[.slice none 0 0, .slice none 0 0] 46)
  have R0 := Blk.new w 46 #[.slice none 0 0, .slice none 0 0]
  have hsz := l03Size_any g p k0 A n c f _ (h.fa.keep hb1) p2 (by omega) k6
  obtain ⟨ad, Z, mz, cz, hA, hc0, hz1, hz2, hrz⟩ := h.rr.get (k := 0) (by omega)
  obtain rfl : mz = m := by rw [← hrz.len]; exact (hm 0 (by rw [HL.out]; omega)).1
  clear hrz
  by_cases hq0 : q = 2
  · obtain rfl := hq0
    have HQ := Lib.hid (show p ^ k0 = 2 by rw [hq]; rfl)
    have HE0 := Lib.hid (cd_yes (f := f) (m := mz) (rows := rows) HQ.out)
    have HW : Hid (∀ V, Below w.heap.size w V → Calls Tryz.prog 90 #[.pointer (some ⟨g, 0, none⟩)] V (fun e w' => ∃ A' n' c', e = .returned (.slice A' n' c') ∧ RR w' A' n' (wordsTo p k0 f 2 mz rows r) ∧ Below V.heap.size V w')) := Lib.hid (fun V hV => l18Words_any g p k0 A n c f M r rc mz rows 2 V (h.keep hV) hf hq hm hr1 hr8 hm32 (Nat.le_trans (Nat.pow_le_pow_right (by omega) hr8) (by decide)))
    have HWR := Lib.hid (show ∀ i, i < 2 ^ r → (row (wordsTo p k0 f 2 mz rows r) i).length = mz ∧ VecQ 2 (row (wordsTo p k0 f 2 mz rows r) i) from fun i hi => by have := wordsTo_row (p := p) (by omega) k0 f 2 mz rows r i hi; rw [HQ.out] at this; exact this)
    have HWL := Lib.hid (wordsTo_len p k0 f 2 mz rows r)
    have HB := Lib.hid (show cdB p k0 f mz rows = supsW (wordsTo p k0 f 2 mz rows r) by unfold cdB; rw [HL.out])
    have hr2 : 2 ^ r ≤ 256 := Nat.le_trans (Nat.pow_le_pow_right (by omega) hr8) (by decide)
    have hr3 : 1 ≤ 2 ^ r := Nat.one_le_two_pow
    have hq' : p ^ k0 = 2 := HQ.out
    rw [hq'] at hsz
    clear hf hq hm h hq' hq64 hq2
    go_enter Tryz.func38, Tryz.ntmps38
    go_wp2_with fail
    refine hsz.mono ?_
    rintro e w1 ⟨rfl, hd⟩
    have hw1 := hb1.trans (hd.below.mono hb1.size)
    have R1 := R0.after hd.below
    dsimp only
    clear hsz hd hb1 R0
    have x3 := (HC.out.keep hw1).c3
    rw [hA] at x3
    have hc1 : w1.cell? ad = some (.slice Z mz cz) := below_cell hw1 hc0
    have hW1 := HW.out w1 hw1
    go_wp2_with fail
    refine hW1.mono ?_
    rintro e w2 ⟨A4, n4, c4, rfl, hRW, hb2⟩
    have hb0 := hw1.trans (hb2.mono hw1.size)
    have R2 := R1.after hb2
    dsimp only
    clear hW1 hw1 R1 hb2 x3 hc1 hc0
    have HN4 := Lib.hid (show n4 = 2 ^ r by rw [← hRW.len]; exact HWL.out)
    have h41 : n4 ≤ 256 := by rw [HN4.out]; exact hr2
    have h42 : 1 ≤ n4 := by rw [HN4.out]; exact hr3
    rw [← HN4.out] at HWR
    obtain ⟨bs, hbs⟩ : ∃ bs, bs = supsW (wordsTo p k0 f 2 mz rows r) := ⟨_, rfl⟩
    obtain ⟨nb, hn1, hn2⟩ : ∃ nb, nb + 1 ≤ n4 ∧ n4 ≤ nb + 1 := ⟨n4 - 1, by omega, by omega⟩
    have hla := Lib.hid (show bs.length = nb by rw [hbs, supsW_len, HWL.out, ← HN4.out]; omega)
    have HRow := Lib.hid (show ∀ j, j < nb → row bs j = supW (row (wordsTo p k0 f 2 mz rows r) (j + 1)) from fun j hj => by rw [hbs]; exact supsW_row (by rw [HWL.out, ← HN4.out]; omega))
    have HB2 := Lib.hid (HB.out.trans hbs.symm)
    rw [HB2.out] at HE0
    clear hbs HB HB2 hr2 hr3 hA
    by_cases hfull : 64 < mz + nb
    · have HE := Lib.hid (dg_yes (v := mz) (bs := bs) (.inl (by rw [hla.out]; exact hfull)))
      rw [HE.out.1, HE.out.2.1, HE.out.2.2] at HE0
      have hD0 := (R2.set_ 0 (.slice none 0 0)).set_ 1 (.slice none 0 0)
      obtain ⟨y0, y1⟩ := R2.cells2
      have f0 := R2.frozen 0
      have f1 := R2.frozen 1
      go_wp2
      clear y0 y1 f0 f1
      obtain ⟨x0, x1⟩ : ((w2.setCell ⟨w.heap.size, 0, none⟩ (.slice none 0 0)).setCell ⟨w.heap.size, 1, none⟩ (.slice none 0 0)).cell? ⟨w.heap.size, 0, none⟩ = some (.slice none 0 0) ∧ ((w2.setCell ⟨w.heap.size, 0, none⟩ (.slice none 0 0)).setCell ⟨w.heap.size, 1, none⟩ (.slice none 0 0)).cell? ⟨w.heap.size, 1, none⟩ = some (.slice none 0 0) := ⟨hD0.cell 0, hD0.cell 1⟩
      refine bodyPost_ret (v := .tuple #[.agg #[.slice none 0 0, .slice none 0 0], .int .i64 5]) (by simp [results, Tryz.results38, go_sem, x0, x1]) rfl ?_
      rw [HE0.out.1, HE0.out.2.1, HE0.out.2.2]
      exact ⟨none, 0, 0, none, 0, 0, rfl, OI.nil_ _ _ _, OE.nil_ _ _ _, by omega, by omega, (hb0.setCell (p := ⟨w.heap.size, 0, none⟩) (Nat.le_refl _) _).setCell (p := ⟨w.heap.size, 1, none⟩) (Nat.le_refl _) _⟩
    · have Y := Blk.new w2 46 #[.slice none 0 0, .slice none 0 0]
      have ba2 := below_alloc w2 (.cells #[.slice none 0 0, .slice none 0 0] 46)
      have hRW3 := hRW
      have hwg : w.heap.size < w2.heap.size := R2.lt
      have G0 : GV w2 (w2.alloc (.cells #[.slice none 0 0, .slice none 0 0] 46)) w2.heap.size none 0 0 none 0 0 [] [] :=
        ⟨ba2, Y, OI.nil_ _ _ _, OE.nil_ _ _ _, Nat.le_refl _⟩
      have HR2 := Lib.hid R2
      have HB0 := Lib.hid hb0
      obtain ⟨y0, y1⟩ := Y.cells2
      have f0 := Y.frozen 0
      have f1 := Y.frozen 1
      clear Y hb0 R2
      go_wp2
      clear y0 y1 f0 f1 ba2 hRW
      generalize hW : w2.alloc (.cells #[.slice none 0 0, .slice none 0 0] 46) = W at *
      generalize hgb : w2.heap.size = gb at *
      have HRW := Lib.hid hRW3
      clear hW hgb hRW3
      go_loopw [7] (fun i wr => ∃ (k : Nat) (A2 : Option Addr) (c2 : Nat), k ≤ mz ∧ i = .int .i64 k ∧ GV w2 wr gb A2 k c2 none 0 0 ((dsC mz nb).take k) []) (fun i _ => mz - (intOf i).toNat)
      case atStart => exact ⟨0, none, 0, Nat.zero_le _, rfl, G0⟩
      case round =>
        clear G0
        obtain ⟨k, A2, c2, hk, rfl, G⟩ := hrel
        by_cases hlt : k < mz
        · have hst := Lib.hid (cdC_at0 (m := nb) hlt)
          obtain ⟨x0, x1⟩ := G.x.cells2
          go_wp2_with (at_builtin; refine app_int _ rfl _ _ rfl w2.heap.size A2 k c2 _ rfl G.oa 0 _ rfl (by simp) ⟨by omega, by omega⟩ (by omega) G.b.size ?_; intro A' c' w3 ho3 hg3 hn3; have G3 := G.colors hg3 ho3; have fz := ((G.x.grown hg3 (OS.typed' G.oa.os G.x (by decide))).frozen 0); have cz := ((G.x.grown hg3 (OS.typed' G.oa.os G.x (by decide))).cells2.1))
          rw [hst.out] at G3
          go_roundw
          case rel => exact ⟨k + 1, A', c', by omega, by go_num, G3⟩
          case measure => simp [intOf]; omega
        · have hk3 : k = mz := by omega
          have G' : GV w2 wr gb A2 (mz + 0) c2 none 0 0 ((dsC mz nb).take (mz + 0)) [] := by rw [Nat.add_zero, ← hk3]; subst hk3; exact G
          clear G
          go_wp2
          clear hlt hk hk3
          go_loopw [8] (fun i wr => ∃ (j k : Nat) (A2 : Option Addr) (c2 : Nat), j ≤ nb ∧ k ≤ j + 1 ∧ j + 1 ≤ k ∧ i = .int .i64 k ∧ GV w2 wr gb A2 (mz + j) c2 none 0 0 ((dsC mz nb).take (mz + j)) []) (fun i _ => n4 - (intOf i).toNat)
          case atStart => exact ⟨0, 1, A2, c2, Nat.zero_le _, by omega, by omega, rfl, G'⟩
          case round =>
            clear G' A2 c2
            obtain ⟨j, k, A2, c2, hj, hk1, hk2, rfl, G⟩ := hrel
            by_cases hlt : k < n4
            · have hst := Lib.hid (cdC_at1 (v := mz) (k := j) (m := nb) (by omega))
              obtain ⟨x0, x1⟩ := G.x.cells2
              go_wp2_with (at_builtin; refine app_int _ rfl _ _ rfl w2.heap.size A2 (mz + j) c2 _ rfl G.oa 1 _ rfl (by simp) ⟨by omega, by omega⟩ (by omega) G.b.size ?_; intro A' c' w3 ho3 hg3 hn3; have G3 := G.colors hg3 ho3; have fz := ((G.x.grown hg3 (OS.typed' G.oa.os G.x (by decide))).frozen 0); have cz := ((G.x.grown hg3 (OS.typed' G.oa.os G.x (by decide))).cells2.1))
              rw [hst.out] at G3
              go_roundw
              case rel => exact ⟨j + 1, k + 1, A', c', by omega, by omega, by omega, by go_num, G3⟩
              case measure => simp [intOf]; omega
            · have hk4 : j = nb := by omega
              rw [List.take_of_length_le (by rw [dsC_len]; omega)] at G
              have G' : GV w2 wr gb A2 (mz + j) c2 none 0 0 (dsC mz nb) (dsE mz bs 0) := G
              clear G
              have hq64 : mz + j ≤ 64 := by omega
              generalize hqq : mz + j = q at *
              go_wp2
              clear hlt hj hk1 hk2 hk4 hqq
              go_loopw [9] (fun i wr => ∃ (x : Nat) (F : Option Addr) (m d : Nat), x ≤ mz ∧ i = .int .i64 x ∧ m ≤ x * 256 ∧ GV w2 wr gb A2 q c2 F m d (dsC mz nb) (dsE mz bs x)) (fun i _ => mz - (intOf i).toNat)
              case atStart => exact ⟨0, none, 0, 0, Nat.zero_le _, rfl, Nat.zero_le _, G'⟩
              case round =>
                clear G'
                obtain ⟨x, F, m, d, hx, rfl, hm, G⟩ := hrel
                by_cases hltx : x < mz
                · have hst := Lib.hid (show dsE mz bs (x + 1) = dsE mz bs x ++ dsX mz bs x nb by rw [dsE_step, hla.out])
                  have G' : GV w2 wr gb A2 q c2 F m d (dsC mz nb) (dsE mz bs x ++ dsX mz bs x 0) := by rw [dsX_zero, List.append_nil]; exact G
                  clear G
                  go_wp2
                  go_loopw [10] (fun i wr => ∃ (j k : Nat) (F : Option Addr) (m d : Nat), j ≤ nb ∧ k ≤ j + 1 ∧ j + 1 ≤ k ∧ i = .int .i64 k ∧ m ≤ x * 256 + j ∧ GV w2 wr gb A2 q c2 F m d (dsC mz nb) (dsE mz bs x ++ dsX mz bs x j)) (fun i _ => n4 - (intOf i).toNat)
                  case atStart => exact ⟨0, 1, F, m, d, Nat.zero_le _, by omega, by omega, rfl, by omega, G'⟩
                  case round =>
                    clear G' hm F m d
                    obtain ⟨j, k, F, m, d, hj, hk1, hk2, rfl, hm, G⟩ := hrel
                    by_cases hltj : k < n4
                    · obtain ⟨ad4, A1, m1, c1, hA4, hca, hn1', hc1', ha1⟩ := (HRW.out.keep G.b).get hltj
                      obtain rfl := hA4
                      have hkj : k = j + 1 := by omega
                      have hwk := HWR.out k hltj
                      have hjn : j < nb := by omega
                      have hrj := HRow.out j hjn
                      rw [show j + 1 = k by omega] at hrj
                      obtain ⟨wa, hwa, hcx, hix⟩ := ha1.get (k := x) (by rw [← ha1.len, hwk.1]; exact hltx)
                      obtain rfl := hwa
                      have hm1 : m1 = mz := by rw [← ha1.len]; exact hwk.1
                      have hone := supW_one hwk.2 (by rw [hwk.1]; exact hltx)
                      rw [← hrj] at hone
                      obtain ⟨z, hz⟩ : ∃ z, z = nth (row (wordsTo p k0 f 2 mz rows r) k) x := ⟨_, rfl⟩
                      rw [← hz] at hone hcx hix
                      rw [hm1] at hca hn1'
                      clear hz hwk hrj ha1 hjn hm1 hkj
                      have HK := Lib.hid (And.intro hk1 hk2)
                      have hcast := Lib.hid (show (mz : Int) + (k : Int) - 1 = ((mz + j : Nat) : Int) by omega)
                      have hnk : j + 1 ≤ nb := by omega
                      have hm2 : m < 4611686018427387904 := by omega
                      clear hk1 hk2
                      by_cases hin : z = 1
                      · have hN := Lib.hid (dsX_yes (v := mz) (bs := bs) (x := x) (j := j) (hone.1 hin))
                        obtain ⟨x0, x1⟩ := G.x.cells2
                        have L := RE.lit1 wr 113 (x : Int) ((mz : Int) + (k : Int) - 1) ⟨by omega, by omega⟩ ⟨by omega, by omega⟩
                        have G1 := G.step (below_alloc wr (.cells #[.int .i64 (x : Int), .int .i64 ((mz : Int) + (k : Int) - 1)] 113))
                        have hjw : IntKind.i64.wrap (k : Int) = (k : Int) := by unfold IntKind.wrap IntKind.bits IntKind.signed; simp; omega
                        clear G hone
                        subst hin
                        go_wp2_with (at_builtin; refine app_edges _ rfl _ _ rfl w2.heap.size F m d _ rfl G1.of_ (some ⟨wr.heap.size, 0, none⟩) 1 1 [((x : Int), ((mz : Int) + (k : Int) - 1))] rfl L (fun e he => by simp at he; subst he; exact ⟨⟨by omega, by omega⟩, ⟨by omega, by omega⟩⟩) (by omega) G1.b.size ?_; intro F' d' w3 ho3 hg3 hn3; have G3 := G1.edges hg3 ho3; have fz := ((G1.x.grown hg3 (OS.typed' G1.of_.os G1.x (by decide))).frozen 1); have cz := ((G1.x.grown hg3 (OS.typed' G1.of_.os G1.x (by decide))).cells2.2))
                        go_roundw
                        case rel => exact ⟨j + 1, k + 1, F', m + 1, d', by omega, by have := HK.out; omega, by have := HK.out; omega, by go_num, by omega, by rw [hN.out, ← List.append_assoc, ← hcast.out]; exact G3⟩
                        case measure => simp [intOf]; omega
                      · have hN := Lib.hid (dsX_no (v := mz) (bs := bs) (x := x) (j := j) (hone.2 hin))
                        clear hone
                        go_wp2
                        go_roundw
                        case rel => exact ⟨j + 1, k + 1, F, m, d, by omega, by have := HK.out; omega, by have := HK.out; omega, by go_num, by omega, by rw [hN.out]; exact G⟩
                        case measure => simp [intOf]; omega
                    · have hjn : j = nb := by omega
                      rw [hjn, ← hst.out] at G
                      rw [hjn] at hm
                      clear hj hjn hk1 hk2
                      go_wp2
                      go_roundw
                      case rel => exact ⟨x + 1, F, m, d, by omega, by go_num, by omega, G⟩
                      case measure => simp [intOf]; omega
                · have hxv : x = mz := by omega
                  rw [hxv] at G hm
                  clear hxv hx
                  have hlm := G.of_.len
                  have GG : GB w wr w.heap.size gb A2 q c2 F m d (dsC mz nb) (dsE mz bs mz) :=
                    ⟨HB0.out.trans (G.b.mono HB0.out.size), G.x, HR2.out.after G.b, G.oa.more HB0.out.size, G.of_.more HB0.out.size, hwg, Nat.le_refl _⟩
                  have hb0 := GG.b
                  obtain ⟨x0, x1⟩ := G.x.cells2
                  by_cases hm5 : 512 < m
                  · have HE := Lib.hid (dg_yes (v := mz) (bs := bs) (.inr (by omega)))
                    rw [HE.out.1, HE.out.2.1, HE.out.2.2] at HE0
                    have hRR := GG.r
                    clear hlm
                    have hD0 := (GG.r.set_ 0 (.slice none 0 0)).set_ 1 (.slice none 0 0)
                    obtain ⟨y0, y1⟩ := GG.r.cells2
                    have f0 := GG.r.frozen 0
                    have f1 := GG.r.frozen 1
                    go_wp2
                    clear y0 y1 f0 f1 x0 x1
                    obtain ⟨x0, x1⟩ : ((wr.setCell ⟨w.heap.size, 0, none⟩ (.slice none 0 0)).setCell ⟨w.heap.size, 1, none⟩ (.slice none 0 0)).cell? ⟨w.heap.size, 0, none⟩ = some (.slice none 0 0) ∧ ((wr.setCell ⟨w.heap.size, 0, none⟩ (.slice none 0 0)).setCell ⟨w.heap.size, 1, none⟩ (.slice none 0 0)).cell? ⟨w.heap.size, 1, none⟩ = some (.slice none 0 0) := ⟨hD0.cell 0, hD0.cell 1⟩
                    refine bodyPost_ret (v := .tuple #[.agg #[.slice none 0 0, .slice none 0 0], .int .i64 5]) (by simp [results, Tryz.results38, go_sem, x0, x1]) rfl ?_
                    rw [HE0.out.1, HE0.out.2.1, HE0.out.2.2]
                    exact ⟨none, 0, 0, none, 0, 0, rfl, OI.nil_ _ _ _, OE.nil_ _ _ _, by omega, by omega, (hb0.setCell (p := ⟨w.heap.size, 0, none⟩) (Nat.le_refl _) _).setCell (p := ⟨w.heap.size, 1, none⟩) (Nat.le_refl _) _⟩
                  · have HE := Lib.hid (dg_no (v := mz) (bs := bs) (by rw [hla.out]; omega) (by omega))
                    rw [HE.out.1, HE.out.2.1, HE.out.2.2, hla.out] at HE0
                    have hD := GG.done
                    obtain ⟨y0, y1⟩ := GG.r.cells2
                    have f0 := GG.r.frozen 0
                    have f1 := GG.r.frozen 1
                    clear hlm
                    go_wp2
                    clear x0 x1 y0 y1 f0 f1
                    obtain ⟨x0, x1⟩ := hD.2.2.cells2
                    refine bodyPost_ret (v := .tuple #[.agg #[.slice A2 q c2, .slice F m d], .int .i64 0]) (by simp [results, Tryz.results38, go_sem, x0, x1]) rfl ?_
                    rw [HE0.out.1, HE0.out.2.1, HE0.out.2.2]
                    exact ⟨A2, q, c2, F, m, d, rfl, hD.1.oi, hD.1.oe, hq64, by omega, hD.2.1⟩
  · have HE := Lib.hid (cd_no (f := f) (m := mz) (rows := rows) (show ¬ p ^ k0 = 2 by rw [hq]; omega))
    have hqn : ¬ ((q : Int) = 2) := by omega
    rw [hq] at hsz
    clear hf hm h hc0 hA
    rw [hq] at hq64 hq2
    clear hq
    go_enter Tryz.func38, Tryz.ntmps38
    go_wp2_with fail
    refine hsz.mono ?_
    rintro e w1 ⟨rfl, hd⟩
    have hb0 := hb1.trans (hd.below.mono hb1.size)
    have R1 := R0.after hd.below
    dsimp only
    clear hsz hd hb1 R0
    have hD0 := (R1.set_ 0 (.slice none 0 0)).set_ 1 (.slice none 0 0)
    obtain ⟨y0, y1⟩ := R1.cells2
    have f0 := R1.frozen 0
    have f1 := R1.frozen 1
    go_wp2
    clear y0 y1 f0 f1
    obtain ⟨x0, x1⟩ : ((w1.setCell ⟨w.heap.size, 0, none⟩ (.slice none 0 0)).setCell ⟨w.heap.size, 1, none⟩ (.slice none 0 0)).cell? ⟨w.heap.size, 0, none⟩ = some (.slice none 0 0) ∧ ((w1.setCell ⟨w.heap.size, 0, none⟩ (.slice none 0 0)).setCell ⟨w.heap.size, 1, none⟩ (.slice none 0 0)).cell? ⟨w.heap.size, 1, none⟩ = some (.slice none 0 0) := ⟨hD0.cell 0, hD0.cell 1⟩
    refine bodyPost_ret (v := .tuple #[.agg #[.slice none 0 0, .slice none 0 0], .int .i64 6]) (by simp [results, Tryz.results38, go_sem, x0, x1]) rfl ?_
    rw [HE.out.1, HE.out.2.1, HE.out.2.2]
    exact ⟨none, 0, 0, none, 0, 0, rfl, OI.nil_ _ _ _, OE.nil_ _ _ _, by omega, by omega, (hb0.setCell (p := ⟨w.heap.size, 0, none⟩) (Nat.le_refl _) _).setCell (p := ⟨w.heap.size, 1, none⟩) (Nat.le_refl _) _⟩
def cgK (P D : Int) (f : List Int) (rows : List (List Int)) : Int := cdK P D.toNat f (row rows 0).length rows
def cgC (P D : Int) (f : List Int) (rows : List (List Int)) : List Int := cdC P D.toNat f (row rows 0).length rows
def cgE (P D : Int) (f : List Int) (rows : List (List Int)) : List Ed := cdE P D.toNat f (row rows 0).length rows
noncomputable def eqcK (P D : Int) (f : List Int) (xs : List (List Int)) (P' D' : Int) (f' : List Int) (ys : List (List Int)) (b : Int) : Int := if tB (CodeOk P D f xs) && tB (CodeOk P' D' f' ys) then samC (inB b 1 20000) (cgK P D f xs) (cgK P' D' f' ys) (code2P (cgC P D f xs) (cgE P D f xs) (cgC P' D' f' ys) (cgE P' D' f' ys) b) else 1
noncomputable def eqcR (P D : Int) (f : List Int) (xs : List (List Int)) (P' D' : Int) (f' : List Int) (ys : List (List Int)) (b : Int) : Bool := if tB (CodeOk P D f xs) && tB (CodeOk P' D' f' ys) then samB (inB b 1 20000) (cgK P D f xs) (cgK P' D' f' ys) (isoP (cgC P D f xs) (cgE P D f xs) (cgC P' D' f' ys) (cgE P' D' f' ys) b) else false
def RetCg (w : World) (k : Int) (cs : List Int) (es : List Ed) (e : Ending) (w' : World) : Prop :=
  ∃ A' n' c' F' m' d', e = .returned (.tuple #[.agg #[.slice A' n' c', .slice F' m' d'], .int .i64 k]) ∧ OI w' w.heap.size 2 A' n' c' cs ∧ OE w' w.heap.size 113 F' m' d' es ∧ n' ≤ 64 ∧ m' ≤ 512 ∧ Below w.heap.size w w'
theorem CodeOk.nums {P D : Int} {f : List Int} {rows : List (List Int)} (h : CodeOk P D f rows) : ∃ (k q : Nat), D = (k : Int) ∧ FldOk P k f ∧ P ^ k = (q : Int) ∧ MatQ (P ^ k) (row rows 0).length rows ∧ 1 ≤ rows.length ∧ rows.length ≤ 8 ∧ 1 ≤ (row rows 0).length ∧ (row rows 0).length ≤ 32 ∧ q ^ rows.length ≤ 4096 := by
  obtain ⟨⟨⟨h1, h2⟩, h3, h4, h5⟩, h6, h7, h8⟩ := h
  obtain ⟨p2, p61, k1, k6, q64, q2⟩ := h2.nums
  obtain ⟨q, hq⟩ : ∃ q : Nat, P ^ D.toNat = (q : Int) := ⟨(P ^ D.toNat).toNat, by omega⟩
  refine ⟨D.toNat, q, by omega, h2, hq, h5, h3.1, h6, h4.1, h4.2, ?_⟩
  rw [hq, ← Int.natCast_pow] at h7
  exact Int.ofNat_le.1 h7
theorem l23Code_ok (g : Nat) (P D : Int) (A : Option Addr) (n c : Nat) (f : List Int) (M : Option Addr) (r rc : Nat) (rows : List (List Int)) (w : World) (h : CAt w g P D A n c f M r rc rows) (hC : CodeOk P D f rows) :
    Calls Tryz.prog 38 #[.pointer (some ⟨g, 0, none⟩)] w (RetCg w (cgK P D f rows) (cgC P D f rows) (cgE P D f rows)) := by
  obtain ⟨k, q, rfl, hf, hq, hm, r1, r8, m1, m32, -⟩ := hC.nums
  have hl := h.rr.len
  exact l23Code_any g P k A n c f M r rc _ rows q w h hf hq hm (by omega) (by omega) m32
set_option maxRecDepth 100000 in
set_option maxHeartbeats 4000000 in
theorem spec_EquivalentCodes (P D : Int) (A : Option Addr) (n c : Nat) (f : List Int) (M : Option Addr) (r rc : Nat) (xs : List (List Int)) (P' D' : Int) (A' : Option Addr) (n' c' : Nat) (f' : List Int) (M' : Option Addr) (r' rc' : Nat) (ys : List (List Int)) (b : Int) (w : World)
    (hP : I64 P) (hD : I64 D) (hn : n ≤ 1099511627776) (hf : RI w A n f) (hr : RR w M r xs) (h1 : r ≤ rc) (h2 : rc ≤ 9223372036854775807)
    (hP' : I64 P') (hD' : I64 D') (hn' : n' ≤ 1099511627776) (hf' : RI w A' n' f') (hr' : RR w M' r' ys) (h1' : r' ≤ rc') (h2' : rc' ≤ 9223372036854775807) :
    Calls Tryz.prog 8 #[.agg #[.int .i64 P, .int .i64 D, .slice A n c, .slice M r rc], .agg #[.int .i64 P', .int .i64 D', .slice A' n' c', .slice M' r' rc'], .int .i64 b] w (fun e w' => e = .returned (.tuple #[.bool (eqcR P D f xs P' D' f' ys b), .int .i64 (eqcK P D f xs P' D' f' ys b)]) ∧ Below w.heap.size w w') := by
  have hb1 := below_then (below_alloc w (.cells #[.int .i64 P, .int .i64 D, .slice A n c, .slice M r rc] 33)) (below_alloc _ (.cells #[.int .i64 P', .int .i64 D', .slice A' n' c', .slice M' r' rc'] 33))
  have X := (CAt.new (P := P) (D := D) (c := c) hf hr h1 h2).keep (below_alloc _ (.cells #[.int .i64 P', .int .i64 D', .slice A' n' c', .slice M' r' rc'] 33))
  have hba := below_alloc w (.cells #[.int .i64 P, .int .i64 D, .slice A n c, .slice M r rc] 33)
  have Y := CAt.new (P := P') (D := D') (c := c') (hf'.keep hba) (hr'.keep hba) h1' h2'
  rw [show (w.alloc (.cells #[.int .i64 P, .int .i64 D, .slice A n c, .slice M r rc] 33)).heap.size = w.heap.size + 1 by simp] at Y
  have HV1 := Lib.hid (fun (w' : World) (h : Below ((w.alloc (.cells #[.int .i64 P, .int .i64 D, .slice A n c, .slice M r rc] 33)).alloc (.cells #[.int .i64 P', .int .i64 D', .slice A' n' c', .slice M' r' rc'] 33)).heap.size _ w') => l18Ok_any _ P D A n c f M r rc xs w' (X.keep h) hP hD (by omega))
  have HV2 := Lib.hid (fun (w' : World) (h : Below ((w.alloc (.cells #[.int .i64 P, .int .i64 D, .slice A n c, .slice M r rc] 33)).alloc (.cells #[.int .i64 P', .int .i64 D', .slice A' n' c', .slice M' r' rc'] 33)).heap.size _ w') => l18Ok_any _ P' D' A' n' c' f' M' r' rc' ys w' (Y.keep h) hP' hD' (by omega))
  generalize hW1 : (w.alloc (.cells #[.int .i64 P, .int .i64 D, .slice A n c, .slice M r rc] 33)).alloc (.cells #[.int .i64 P', .int .i64 D', .slice A' n' c', .slice M' r' rc'] 33) = W1 at *
  have hv1 := HV1.out W1 (Below.refl _ _)
  clear hba HV1
  by_cases c1 : CodeOk P D f xs
  · rw [tB_yes c1] at hv1
    by_cases c2 : CodeOk P' D' f' ys
    · have HY := Lib.hid (tB_yes c2)
      have HK := Lib.hid (show eqcK P D f xs P' D' f' ys b = samC (inB b 1 20000) (cgK P D f xs) (cgK P' D' f' ys) (code2P (cgC P D f xs) (cgE P D f xs) (cgC P' D' f' ys) (cgE P' D' f' ys) b) by rw [eqcK, tB_yes c1, tB_yes c2]; rfl)
      have HR := Lib.hid (show eqcR P D f xs P' D' f' ys b = samB (inB b 1 20000) (cgK P D f xs) (cgK P' D' f' ys) (isoP (cgC P D f xs) (cgE P D f xs) (cgC P' D' f' ys) (cgE P' D' f' ys) b) by rw [eqcR, tB_yes c1, tB_yes c2]; rfl)
      have HF1 := Lib.hid (fun (w' : World) (h : Below W1.heap.size W1 w') => l23Code_ok _ P D A n c f M r rc xs w' (X.keep h) c1)
      have HF2 := Lib.hid (fun (w' : World) (h : Below W1.heap.size W1 w') => l23Code_ok _ P' D' A' n' c' f' M' r' rc' ys w' (Y.keep h) c2)
      clear c1 c2 X Y
      cases hi : inB b 1 20000 with
      | false =>
        rw [hi] at HK HR
        go_enter Tryz.func8, Tryz.ntmps8
        go_wp2_with fail
        refine hv1.mono ?_
        rintro e w1 ⟨rfl, hd1⟩
        go_wp2_with fail
        refine (HV2.out w1 hd1).mono ?_
        rintro e w2 ⟨rfl, hd2⟩
        rw [HY.out]
        have hw2 := below_then hd1 hd2
        clear hd1 hd2 hv1
        go_wp2_with (go_at_call 37; refine (l00In_any _ _ _ _).mono ?_; rintro e w' ⟨rfl, rfl⟩; rw [hi])
        go_ret2
        exact ⟨by rw [HK.out, HR.out]; rfl, hb1.trans (hw2.mono hb1.size)⟩
      | true =>
        rw [hi] at HK HR
        by_cases k1 : cgK P D f xs = 0
        · have K1 := Lib.hid k1
          rw [k1] at HK HR
          by_cases k2 : cgK P' D' f' ys = 0
          · have K2 := Lib.hid k2
            rw [k2, (sam_ok _ false).1] at HK
            rw [k2, (sam_ok 0 _).2] at HR
            clear k1 k2
            go_enter Tryz.func8, Tryz.ntmps8
            go_wp2_with fail
            refine hv1.mono ?_
            rintro e w1 ⟨rfl, hd1⟩
            go_wp2_with fail
            refine (HV2.out w1 hd1).mono ?_
            rintro e w2 ⟨rfl, hd2⟩
            rw [HY.out]
            have hw2 := below_then hd1 hd2
            clear hd1 hd2 hv1
            go_wp2_with fail
            refine (l00In_any _ _ _ _).mono ?_
            rintro e w' ⟨rfl, rfl⟩
            rw [hi]
            go_wp2_with fail
            refine (HF1.out w2 hw2).mono ?_
            rintro e w3 ⟨A1, n1, d1, F1, m1, e1, rfl, o1, o2, q1, q2, hb3⟩
            rw [K1.out]
            have hw3 := hw2.trans (hb3.mono hw2.size)
            have hG1 := RG.mk o1.reads o2.reads
            have hal := below_alloc w3 (.cells #[.slice A1 n1 d1, .slice F1 m1 e1] 46)
            have hX := Blk.new w3 46 #[.slice A1 n1 d1, .slice F1 m1 e1]
            clear hw2 hb3 o1 o2
            go_wp2_with fail
            refine (HF2.out _ (hw3.trans (hal.mono hw3.size))).mono ?_
            rintro e w4 ⟨A2, n2, d2, F2, m2, e2, rfl, o1, o2, q3, q4, hb4⟩
            rw [K2.out]
            have hG2 := RG.mk o1.reads o2.reads
            have hX4 := hX.after hb4
            have hb34 := hal.trans (hb4.mono (by simp))
            have hG1' := hG1.keep hb34
            have hw4 := hw3.trans (hb34.mono hw3.size)
            have hal4 := below_alloc w4 (.cells #[.slice A2 n2 d2, .slice F2 m2 e2] 46)
            have hY := Blk.new w4 46 #[.slice A2 n2 d2, .slice F2 m2 e2]
            have hX5 := hX4.after hal4
            obtain ⟨x0, x1⟩ := hX5.cells2
            obtain ⟨y0, y1⟩ := hY.cells2
            have hsf := spec_IsomorphicGraphs A1 n1 d1 F1 m1 e1 (cgC P D f xs) (cgE P D f xs) A2 n2 d2 F2 m2 e2 (cgC P' D' f' ys) (cgE P' D' f' ys) b (w4.alloc (.cells #[.slice A2 n2 d2, .slice F2 m2 e2] 46)) (hG1'.keep hal4) (hG2.keep hal4) (by omega) (by omega) (by omega) (by omega)
            rw [← HK.out, ← HR.out] at hsf
            have hw5 := hw4.trans (hal4.mono hw4.size)
            clear hX hX4 hX5 hY hG1 hG1' hG2 hal hal4 hb34 hb4 hw3 hw4 o1 o2
            go_wp2_with fail
            refine hsf.mono ?_
            rintro e w6 ⟨rfl, hb6⟩
            go_wp2
            go_ret2
            exact ⟨rfl, hb1.trans ((hw5.trans (hb6.mono hw5.size)).mono hb1.size)⟩
          · rw [(sam_q k2 _ false).1] at HK
            rw [(sam_q k2 0 _).2] at HR
            clear k1
            generalize hz : cgK P' D' f' ys = z at *
            clear hz
            go_enter Tryz.func8, Tryz.ntmps8
            go_wp2_with fail
            refine hv1.mono ?_
            rintro e w1 ⟨rfl, hd1⟩
            go_wp2_with fail
            refine (HV2.out w1 hd1).mono ?_
            rintro e w2 ⟨rfl, hd2⟩
            rw [HY.out]
            have hw2 := below_then hd1 hd2
            clear hd1 hd2 hv1
            go_wp2_with fail
            refine (l00In_any _ _ _ _).mono ?_
            rintro e w' ⟨rfl, rfl⟩
            rw [hi]
            go_wp2_with fail
            refine (HF1.out w2 hw2).mono ?_
            rintro e w3 ⟨A1, n1, d1, F1, m1, e1, rfl, -, -, q1, q2, hb3⟩
            rw [K1.out]
            have hw3 := hw2.trans (hb3.mono hw2.size)
            have hal := below_alloc w3 (.cells #[.slice A1 n1 d1, .slice F1 m1 e1] 46)
            clear hw2 hb3
            go_wp2_with fail
            refine (HF2.out _ (hw3.trans (hal.mono hw3.size))).mono ?_
            rintro e w4 ⟨A2, n2, d2, F2, m2, e2, rfl, -, -, q3, q4, hb4⟩
            have hw4 := hw3.trans ((hal.trans (hb4.mono (by simp))).mono hw3.size)
            have hal4 := below_alloc w4 (.cells #[.slice A2 n2 d2, .slice F2 m2 e2] 46)
            have hw5 := hw4.trans (hal4.mono hw4.size)
            clear hal hal4 hw3 hw4 hb4
            go_wp2
            go_ret2
            exact ⟨by rw [HK.out, HR.out]; rfl, hb1.trans (hw5.mono hb1.size)⟩
        · rw [(sam_p k1 _ _ false).1] at HK
          rw [(sam_p k1 _ 0 _).2] at HR
          generalize hz : cgK P D f xs = z at *
          clear hz
          go_enter Tryz.func8, Tryz.ntmps8
          go_wp2_with fail
          refine hv1.mono ?_
          rintro e w1 ⟨rfl, hd1⟩
          go_wp2_with fail
          refine (HV2.out w1 hd1).mono ?_
          rintro e w2 ⟨rfl, hd2⟩
          rw [HY.out]
          have hw2 := below_then hd1 hd2
          clear hd1 hd2 hv1
          go_wp2_with fail
          refine (l00In_any _ _ _ _).mono ?_
          rintro e w' ⟨rfl, rfl⟩
          rw [hi]
          go_wp2_with fail
          refine (HF1.out w2 hw2).mono ?_
          rintro e w3 ⟨A1, n1, d1, F1, m1, e1, rfl, -, -, q1, q2, hb3⟩
          have hw3 := hw2.trans (hb3.mono hw2.size)
          have hal := below_alloc w3 (.cells #[.slice A1 n1 d1, .slice F1 m1 e1] 46)
          have hw4 := hw3.trans (hal.mono hw3.size)
          clear hal hw3 hw2 hb3
          go_wp2
          go_ret2
          exact ⟨by rw [HK.out, HR.out]; rfl, hb1.trans (hw4.mono hb1.size)⟩
    · have HY := Lib.hid (tB_no c2)
      have HK := Lib.hid (show eqcK P D f xs P' D' f' ys b = 1 by rw [eqcK, tB_no c2]; simp)
      have HR := Lib.hid (show eqcR P D f xs P' D' f' ys b = false by rw [eqcR, tB_no c2]; simp)
      clear c1 c2 X Y
      go_enter Tryz.func8, Tryz.ntmps8
      go_wp2_with fail
      refine hv1.mono ?_
      rintro e w1 ⟨rfl, hd1⟩
      go_wp2_with fail
      refine (HV2.out w1 hd1).mono ?_
      rintro e w2 ⟨rfl, hd2⟩
      rw [HY.out]
      have hw2 := below_then hd1 hd2
      go_wp2
      go_ret2
      exact ⟨by rw [HK.out, HR.out]; rfl, hb1.trans (hw2.mono hb1.size)⟩
  · rw [tB_no c1] at hv1
    have HK := Lib.hid (show eqcK P D f xs P' D' f' ys b = 1 by rw [eqcK, tB_no c1]; simp)
    have HR := Lib.hid (show eqcR P D f xs P' D' f' ys b = false by rw [eqcR, tB_no c1]; simp)
    clear c1 X Y
    go_enter Tryz.func8, Tryz.ntmps8
    go_wp2_with fail
    refine hv1.mono ?_
    rintro e w1 ⟨rfl, hd1⟩
    go_wp2
    go_ret2
    exact ⟨by rw [HK.out, HR.out]; rfl, hb1.trans (hd1.mono hb1.size)⟩
end Go.Proofs.YtdkbcjdimhgmnaaGreat
