/- The graph of a design, the reference's. No condition beyond those stated. -/
import Derived.Test.YtaphmapkobbfbaaGreatHL
import Derived.Test.YtaphmapkobbfbaaGreatHF
import Derived.Test.YtaphmapkobbfbaaGreatHI
set_option linter.unusedVariables false
set_option linter.unusedSimpArgs false
namespace Go.Proofs.YtaphmapkobbfbaaGreat
open Go.RowKit

theorem dsC_at0 {v m k : Nat} (h : k < v) : (dsC v m).take k ++ [0] = (dsC v m).take (k + 1) := by
  rw [List.take_succ_eq_append_getElem (by rw [dsC_len]; omega)]
  congr 2
  unfold dsC
  rw [List.getElem_append_left (by simpa using h), List.getElem_replicate]
theorem dsC_at1 {v m k : Nat} (h : k < m) : (dsC v m).take (v + k) ++ [1] = (dsC v m).take (v + k + 1) := by
  rw [List.take_succ_eq_append_getElem (by rw [dsC_len]; omega)]
  congr 2
  unfold dsC
  rw [List.getElem_append_right (by simp), List.getElem_replicate]
set_option maxRecDepth 100000 in
set_option maxHeartbeats 4000000 in
theorem l23Graph_any (g v : Nat) (A : Option Addr) (n c : Nat) (bs : List (List Int)) (w : World) (hB : Blk w g 28 #[.int .i64 v, .slice A n c]) (ha : RR w A n bs) (hD : Design (v : Int) bs) :
    Calls Tryz.prog 61 #[.pointer (some ⟨g, 0, none⟩)] w (fun e w' => ∃ A' n' c' F' m' d', e = .returned (.tuple #[.agg #[.slice A' n' c', .slice F' m' d'], .int .i64 (dgK v bs)]) ∧ OI w' w.heap.size 2 A' n' c' (dgC v bs) ∧ OE w' w.heap.size 91 F' m' d' (dgE v bs) ∧ n' ≤ 64 ∧ m' ≤ 512 ∧ Below w.heap.size w w') := by
  have hla := Lib.hid ha.len
  have l1 := hD.v2
  have l2 : n ≤ 128 := by rw [← ha.len]; exact hD.len
  clear hD
  obtain ⟨ii, hi, hi0, hi1, hi2⟩ := info_parts graph_info
  obtain ⟨ie, he, he0, he1, he2⟩ := info_parts edge_info
  have hb1 := below_alloc w (.cells #[.slice none 0 0, .slice none 0 0] 58)
  have R0 := Blk.new w 58 #[.slice none 0 0, .slice none 0 0]
  by_cases hfull : 64 < v + n
  · have HE := Lib.hid (dg_yes (v := v) (bs := bs) (.inl (by rw [ha.len]; exact hfull)))
    obtain ⟨b0, b1⟩ := (hB.after hb1).cells2
    obtain ⟨y0, y1⟩ := R0.cells2
    have f0 := R0.frozen 0
    have f1 := R0.frozen 1
    go_enter Tryz.func61, Tryz.ntmps61
    go_wp2
    refine bodyPost_ret (v := .tuple #[.agg #[.slice none 0 0, .slice none 0 0], .int .i64 5]) (by simp [results, Tryz.results61, go_sem, y0, y1]) rfl ?_
    rw [HE.out.1, HE.out.2.1, HE.out.2.2]
    exact ⟨none, 0, 0, none, 0, 0, rfl, OI.nil_ _ _ _, OE.nil_ _ _ _, by omega, by omega, by first | exact hb1 | exact (hb1.setCell (p := ⟨w.heap.size, 0, none⟩) (Nat.le_refl _) _).setCell (p := ⟨w.heap.size, 1, none⟩) (Nat.le_refl _) _⟩
  · have Y : Blk ((w.alloc (.cells #[.slice none 0 0, .slice none 0 0] 58)).alloc (.cells #[.slice none 0 0, .slice none 0 0] 58)) (w.heap.size + 1) 58 #[.slice none 0 0, .slice none 0 0] := by
      have := Blk.new (w.alloc (.cells #[.slice none 0 0, .slice none 0 0] 58)) 58 #[.slice none 0 0, .slice none 0 0]
      simpa using this
    have G0 : GB w ((w.alloc (.cells #[.slice none 0 0, .slice none 0 0] 58)).alloc (.cells #[.slice none 0 0, .slice none 0 0] 58)) w.heap.size (w.heap.size + 1) none 0 0 none 0 0 [] [] :=
      ⟨below_then (below_alloc w _) (below_alloc _ _), Y, R0.alloc _, OI.nil_ _ _ _, OE.nil_ _ _ _, by omega, Nat.le_refl _⟩
    obtain ⟨b0, b1⟩ := (hB.after hb1).cells2
    clear Y R0
    go_enter Tryz.func61, Tryz.ntmps61
    go_wp2
    clear b0 b1 hb1
    generalize hW : (w.alloc (.cells #[.slice none 0 0, .slice none 0 0] 58)).alloc (.cells #[.slice none 0 0, .slice none 0 0] 58) = W at *
    generalize hgb : w.heap.size + 1 = gb at *
    clear hW hgb
    go_loopw [6] (fun i wr => ∃ (k : Nat) (A2 : Option Addr) (c2 : Nat), k ≤ v ∧ i = .int .i64 k ∧ GB w wr w.heap.size gb A2 k c2 none 0 0 ((dsC v n).take k) []) (fun i _ => v - (intOf i).toNat)
    case atStart => exact ⟨0, none, 0, Nat.zero_le _, rfl, G0⟩
    case round =>
      clear G0
      obtain ⟨k, A2, c2, hk, rfl, G⟩ := hrel
      by_cases hlt : k < v
      · have hst := Lib.hid (dsC_at0 (m := n) hlt)
        obtain ⟨x0, x1⟩ := G.x.cells2
        go_wp2_with (at_builtin; refine app_int _ rfl _ _ rfl w.heap.size A2 k c2 _ rfl G.oa 0 _ rfl (by simp) ⟨by omega, by omega⟩ (by omega) G.b.size ?_; intro A' c' w3 ho3 hg3 hn3; have G3 := G.colors hg3 ho3; have fz := ((G.x.grown hg3 (OS.typed' G.oa.os G.x (by decide))).frozen 0); have cz := ((G.x.grown hg3 (OS.typed' G.oa.os G.x (by decide))).cells2.1))
        rw [hst.out] at G3
        go_roundw
        case rel => exact ⟨k + 1, A', c', by omega, by go_num, G3⟩
        case measure => simp [intOf]; omega
      · have hk3 : k = v := by omega
        have G' : GB w wr w.heap.size gb A2 (v + 0) c2 none 0 0 ((dsC v n).take (v + 0)) [] := by rw [Nat.add_zero, ← hk3]; subst hk3; exact G
        clear G
        go_wp2
        clear hlt hk hk3
        go_loopw [7] (fun i wr => ∃ (k : Nat) (A2 : Option Addr) (c2 : Nat), k ≤ n ∧ i = .int .i64 k ∧ GB w wr w.heap.size gb A2 (v + k) c2 none 0 0 ((dsC v n).take (v + k)) []) (fun i _ => n - (intOf i).toNat)
        case atStart => exact ⟨0, A2, c2, Nat.zero_le _, rfl, G'⟩
        case round =>
          clear G' A2 c2
          obtain ⟨k, A2, c2, hk, rfl, G⟩ := hrel
          obtain ⟨b0, b1⟩ := (hB.after G.b).cells2
          by_cases hlt : k < n
          · have hst := Lib.hid (dsC_at1 (v := v) hlt)
            obtain ⟨x0, x1⟩ := G.x.cells2
            go_wp2_with (at_builtin; refine app_int _ rfl _ _ rfl w.heap.size A2 (v + k) c2 _ rfl G.oa 1 _ rfl (by simp) ⟨by omega, by omega⟩ (by omega) G.b.size ?_; intro A' c' w3 ho3 hg3 hn3; have G3 := G.colors hg3 ho3; have fz := ((G.x.grown hg3 (OS.typed' G.oa.os G.x (by decide))).frozen 0); have cz := ((G.x.grown hg3 (OS.typed' G.oa.os G.x (by decide))).cells2.1))
            rw [hst.out] at G3
            clear b0 b1
            go_roundw
            case rel => exact ⟨k + 1, A', c', by omega, by go_num, G3⟩
            case measure => simp [intOf]; omega
          · have hk4 : k = n := by omega
            rw [List.take_of_length_le (by rw [dsC_len]; omega)] at G
            have G' : GB w wr w.heap.size gb A2 (v + k) c2 none 0 0 (dsC v n) (dsE v bs 0) := G
            clear G
            have hq64 : v + k ≤ 64 := by omega
            generalize hqq : v + k = q at *
            go_wp2
            clear hlt hk hk4 hqq b0 b1
            go_loopw [8] (fun i wr => ∃ (x : Nat) (F : Option Addr) (m d : Nat), x ≤ v ∧ i = .int .i64 x ∧ m ≤ x * 128 ∧ GB w wr w.heap.size gb A2 q c2 F m d (dsC v n) (dsE v bs x)) (fun i _ => v - (intOf i).toNat)
            case atStart => exact ⟨0, none, 0, 0, Nat.zero_le _, rfl, Nat.zero_le _, G'⟩
            case round =>
              clear G'
              obtain ⟨x, F, m, d, hx, rfl, hm, G⟩ := hrel
              by_cases hltx : x < v
              · have hst := Lib.hid (show dsE v bs (x + 1) = dsE v bs x ++ dsX v bs x n by rw [dsE_step, hla.out])
                have G' : GB w wr w.heap.size gb A2 q c2 F m d (dsC v n) (dsE v bs x ++ dsX v bs x 0) := by rw [dsX_zero, List.append_nil]; exact G
                clear G
                go_wp2
                go_loopw [9] (fun i wr => ∃ (j : Nat) (F : Option Addr) (m d : Nat), j ≤ n ∧ i = .int .i64 j ∧ m ≤ x * 128 + j ∧ GB w wr w.heap.size gb A2 q c2 F m d (dsC v n) (dsE v bs x ++ dsX v bs x j)) (fun i _ => n - (intOf i).toNat)
                case atStart => exact ⟨0, F, m, d, Nat.zero_le _, rfl, by omega, G'⟩
                case round =>
                  clear G' hm F m d
                  obtain ⟨j, F, m, d, hj, rfl, hm, G⟩ := hrel
                  obtain ⟨b0, b1⟩ := (hB.after G.b).cells2
                  by_cases hltj : j < n
                  · obtain ⟨ad, A1, m1, c1, rfl, hca, hn1, hc1, ha1⟩ := (ha.keep G.b).get hltj
                    have hha := l00Has_any A1 m1 c1 (row bs j) (x : Int) wr ha1 (by omega)
                    by_cases hin : (x : Int) ∈ row bs j
                    · have hN := Lib.hid (dsX_yes (v := v) (bs := bs) (x := x) (j := j) (by simpa using hin))
                      rw [tB_yes hin] at hha
                      clear hin ha1
                      go_wp2_with fail
                      refine hha.mono ?_
                      rintro e w' ⟨rfl, rfl⟩
                      obtain ⟨x0, x1⟩ := G.x.cells2
                      have hcast := Lib.hid (show (v : Int) + (j : Int) = ((v + j : Nat) : Int) by simp)
                      have L := RE.lit1 wr 91 (x : Int) ((v : Int) + (j : Int)) ⟨by omega, by omega⟩ ⟨by omega, by omega⟩
                      have G1 := G.step (below_alloc wr (.cells #[.int .i64 (x : Int), .int .i64 ((v : Int) + (j : Int))] 91))
                      have hjw : IntKind.i64.wrap (j : Int) = (j : Int) := by unfold IntKind.wrap IntKind.bits IntKind.signed; simp; omega
                      clear G hha b0 b1 hca
                      go_wp2_with (at_builtin; refine app_edges _ rfl _ _ rfl w.heap.size F m d _ rfl G1.of_ (some ⟨wr.heap.size, 0, none⟩) 1 1 [((x : Int), ((v : Int) + (j : Int)))] rfl L (fun e he => by simp at he; subst he; exact ⟨⟨by omega, by omega⟩, ⟨by omega, by omega⟩⟩) (by omega) G1.b.size ?_; intro F' d' w3 ho3 hg3 hn3; have G3 := G1.edges hg3 ho3; have fz := ((G1.x.grown hg3 (OS.typed' G1.of_.os G1.x (by decide))).frozen 1); have cz := ((G1.x.grown hg3 (OS.typed' G1.of_.os G1.x (by decide))).cells2.2))
                      go_roundw
                      case rel => exact ⟨j + 1, F', m + 1, d', by omega, by go_num, by omega, by rw [hN.out, ← List.append_assoc, ← hcast.out]; exact G3⟩
                      case measure => simp [intOf]; omega
                    · have hN := Lib.hid (dsX_no (v := v) (bs := bs) (x := x) (j := j) (by simpa using hin))
                      rw [tB_no hin] at hha
                      clear hin ha1
                      go_wp2_with fail
                      refine hha.mono ?_
                      rintro e w' ⟨rfl, rfl⟩
                      clear hha b0 b1 hca
                      go_wp2
                      go_roundw
                      case rel => exact ⟨j + 1, F, m, d, by omega, by go_num, by omega, by rw [hN.out]; exact G⟩
                      case measure => simp [intOf]; omega
                  · obtain rfl : j = n := by omega
                    rw [← hst.out] at G
                    go_wp2
                    go_roundw
                    case rel => exact ⟨x + 1, F, m, d, by omega, by go_num, by omega, G⟩
                    case measure => simp [intOf]; omega
              · obtain rfl : x = v := by omega
                have hlm := G.of_.len
                obtain ⟨x0, x1⟩ := G.x.cells2
                obtain ⟨r0, r1⟩ := G.r.cells2
                have f0 := G.r.frozen 0
                have f1 := G.r.frozen 1
                by_cases hm5 : 512 < m
                · have HE := Lib.hid (dg_yes (v := x) (bs := bs) (.inr (by omega)))
                  have hD := (G.r.set_ 0 (.slice none 0 0)).set_ 1 (.slice none 0 0)
                  have hb := G.b
                  clear hlm
                  go_wp2
                  clear x0 x1 r0 r1
                  obtain ⟨x0, x1⟩ : ((wr.setCell ⟨w.heap.size, 0, none⟩ (.slice none 0 0)).setCell ⟨w.heap.size, 1, none⟩ (.slice none 0 0)).cell? ⟨w.heap.size, 0, none⟩ = some (.slice none 0 0) ∧ ((wr.setCell ⟨w.heap.size, 0, none⟩ (.slice none 0 0)).setCell ⟨w.heap.size, 1, none⟩ (.slice none 0 0)).cell? ⟨w.heap.size, 1, none⟩ = some (.slice none 0 0) := ⟨hD.cell 0, hD.cell 1⟩
                  refine bodyPost_ret (v := .tuple #[.agg #[.slice none 0 0, .slice none 0 0], .int .i64 5]) (by simp [results, Tryz.results61, go_sem, x0, x1]) rfl ?_
                  rw [HE.out.1, HE.out.2.1, HE.out.2.2]
                  exact ⟨none, 0, 0, none, 0, 0, rfl, OI.nil_ _ _ _, OE.nil_ _ _ _, by omega, by omega, (hb.setCell (p := ⟨w.heap.size, 0, none⟩) (Nat.le_refl _) _).setCell (p := ⟨w.heap.size, 1, none⟩) (Nat.le_refl _) _⟩
                · have HE := Lib.hid (dg_no (v := x) (bs := bs) (by rw [hla.out]; omega) (by omega))
                  have hD := G.done
                  clear hlm
                  go_wp2
                  clear x0 x1 r0 r1
                  obtain ⟨x0, x1⟩ := hD.2.2.cells2
                  refine bodyPost_ret (v := .tuple #[.agg #[.slice A2 q c2, .slice F m d], .int .i64 0]) (by simp [results, Tryz.results61, go_sem, x0, x1]) rfl ?_
                  rw [HE.out.1, HE.out.2.1, HE.out.2.2, hla.out]
                  exact ⟨A2, q, c2, F, m, d, rfl, hD.1.oi, hD.1.oe, hq64, by omega, hD.2.1⟩
end Go.Proofs.YtaphmapkobbfbaaGreat
/- Whether two designs are isomorphic, plain words and the program's side. No condition beyond those stated. -/
namespace Go.Proofs.YtaphmapkobbfbaaGreat
open Go.RowKit

theorem ds_graphOk {v : Nat} {bs : List (List Int)} (h1 : v + bs.length ≤ 64) (h2 : (dsE v bs v).length ≤ 512) : GraphOk (dsC v bs.length) (dsE v bs v) := by
  refine ⟨by rw [dsC_len]; exact h1, h2, fun k hk => ?_, fun i hi => ?_, fun i hi => ?_⟩
  · rw [nth_get hk]
    have := List.getElem_mem hk
    generalize (dsC v bs.length)[k] = x at this
    unfold dsC at this
    rcases List.mem_append.1 this with h | h
    · rw [List.eq_of_mem_replicate h]; omega
    · rw [List.eq_of_mem_replicate h]; omega
  · rw [nthE_get hi]
    obtain ⟨x, j, hx, hj, -, he⟩ := (dsE_mem _).1 (List.getElem_mem hi)
    rw [he, dsC_len]
    simp only []
    omega
  · have := List.pairwise_iff_getElem.1 (dsE_strict (v := v) (bs := bs)) i (i + 1) (by omega) hi (by omega)
    rw [nthE_get (by omega), nthE_get hi]
    exact (cmpE_neg _ _).1 this
theorem dgK_cases (v : Nat) (bs : List (List Int)) : (dgK v bs = 0 ∧ GraphOk (dgC v bs) (dgE v bs)) ∨ dgK v bs = 5 := by
  by_cases h : 64 < v + bs.length ∨ 512 < (dsE v bs v).length
  · exact .inr (dg_yes h).2.2
  · obtain ⟨e1, e2, e3⟩ := dg_no (v := v) (bs := bs) (by omega) (by omega)
    rw [e1, e2]
    exact .inl ⟨e3, ds_graphOk (by omega) (by omega)⟩
/-- the code of one design's search -/
noncomputable def fK (v : Nat) (bs : List (List Int)) (b : Int) : Int := if dgK v bs ≠ 0 then dgK v bs else codeP (dgC v bs) (dgE v bs) b
theorem fK_full {v : Nat} {bs : List (List Int)} (h : dgK v bs = 5) (b : Int) : fK v bs b = 5 := by simp [fK, h]
theorem fK_ok {v : Nat} {bs : List (List Int)} (h : dgK v bs = 0) (b : Int) : fK v bs b = codeP (dgC v bs) (dgE v bs) b := by simp [fK, h]
theorem codeP_two {cs : List Int} {es : List Ed} {b : Int} (h : GraphOk cs es) (hb : inB b 1 20000 = true) : codeP cs es b = 0 ∨ codeP cs es b = 5 := by
  unfold codeP
  rw [tB_yes h, hb]
  cases (runP cs es b.toNat).spent <;> simp
theorem fK_code {v u : Nat} {bs ds : List (List Int)} {b : Int} (hb : inB b 1 20000 = true) :
    samC true (dgK v bs) (dgK u ds) (code2P (dgC v bs) (dgE v bs) (dgC u ds) (dgE u ds) b) = if fK v bs b ≠ 0 then fK v bs b else fK u ds b := by
  rcases dgK_cases v bs with ⟨h1, g1⟩ | h1
  · rcases dgK_cases u ds with ⟨h2, g2⟩ | h2
    · rw [h1, h2, (sam_ok _ false).1, fK_ok h1, fK_ok h2]
      by_cases h : codeP (dgC v bs) (dgE v bs) b = 0
      · rw [code2_eq g1 g2 h]; simp [h]
      · rw [code2_ne g1 g2 h]; simp [h]
    · rw [h1, h2, (sam_q (by decide) _ false).1, fK_ok h1, fK_full h2]
      rcases codeP_two g1 hb with h | h <;> simp [h]
  · rw [h1, (sam_p (by decide) _ _ false).1, fK_full h1]
    simp
theorem fK_bool {v u : Nat} {bs ds : List (List Int)} {b : Int} :
    samB true (dgK v bs) (dgK u ds) (isoP (dgC v bs) (dgE v bs) (dgC u ds) (dgE u ds) b) = if fK v bs b = 0 ∧ fK u ds b = 0 then sameP (runP (dgC v bs) (dgE v bs) b.toNat) (runP (dgC u ds) (dgE u ds) b.toNat) else false := by
  rcases dgK_cases v bs with ⟨h1, g1⟩ | h1
  · rcases dgK_cases u ds with ⟨h2, g2⟩ | h2
    · rw [h1, h2, (sam_ok 0 _).2, fK_ok h1, fK_ok h2, isoP]
      by_cases h : codeP (dgC v bs) (dgE v bs) b = 0
      · rw [code2_eq g1 g2 h]; simp [h]
      · rw [code2_ne g1 g2 h]; simp [h]
    · rw [h1, h2, (sam_q (by decide) 0 _).2, fK_full h2]
      simp
  · rw [h1, (sam_p (by decide) _ 0 _).2, fK_full h1]
    simp
noncomputable def dsgK (v : Int) (bs : List (List Int)) (u : Int) (ds : List (List Int)) (b : Int) : Int := if tB (Design v bs) && tB (Design u ds) then samC (inB b 1 20000) (dgK v.toNat bs) (dgK u.toNat ds) (code2P (dgC v.toNat bs) (dgE v.toNat bs) (dgC u.toNat ds) (dgE u.toNat ds) b) else 1
noncomputable def dsgR (v : Int) (bs : List (List Int)) (u : Int) (ds : List (List Int)) (b : Int) : Bool := if tB (Design v bs) && tB (Design u ds) then samB (inB b 1 20000) (dgK v.toNat bs) (dgK u.toNat ds) (isoP (dgC v.toNat bs) (dgE v.toNat bs) (dgC u.toNat ds) (dgE u.toNat ds) b) else false
set_option maxRecDepth 100000 in
set_option maxHeartbeats 1000000 in
theorem designGraph_any (v : Nat) (A : Option Addr) (n c : Nat) (bs : List (List Int)) (w : World) (ha : RR w A n bs) (hD : Design (v : Int) bs) :
    Calls Tryz.prog 36 #[.agg #[.int .i64 v, .slice A n c]] w (fun e w' => ∃ A' n' c' F' m' d', e = .returned (.tuple #[.agg #[.slice A' n' c', .slice F' m' d'], .int .i64 (dgK v bs)]) ∧ RG w' A' n' F' m' (dgC v bs) (dgE v bs) ∧ n' ≤ 64 ∧ m' ≤ 512 ∧ Below w.heap.size w w') := by
  have hn : n ≤ 128 := by rw [← ha.len]; exact hD.len
  have hb1 := below_then (below_alloc w (.cells #[.int .i64 v, .slice A n c] 28)) (below_alloc _ (.cells #[.slice none 0 0, .slice none 0 0] 58))
  have X := (Blk.new w 28 #[.int .i64 v, .slice A n c]).alloc (.cells #[.slice none 0 0, .slice none 0 0] 58)
  have Y : Blk ((w.alloc (.cells #[.int .i64 v, .slice A n c] 28)).alloc (.cells #[.slice none 0 0, .slice none 0 0] 58)) (w.heap.size + 1) 58 #[.slice none 0 0, .slice none 0 0] := by
    have := Blk.new (w.alloc (.cells #[.int .i64 v, .slice A n c] 28)) 58 #[.slice none 0 0, .slice none 0 0]
    simpa using this
  have hv := validDesign_any v A n c bs _ (ha.keep hb1) (by omega)
  rw [tB_yes hD] at hv
  have HS := Lib.hid (fun (w' : World) (h : Below w.heap.size w w') => setGraph_any v A n c bs w' (ha.keep h) hD)
  clear hD
  generalize hW1 : (w.alloc (.cells #[.int .i64 v, .slice A n c] 28)).alloc (.cells #[.slice none 0 0, .slice none 0 0] 58) = W1 at *
  obtain ⟨x0, x1⟩ := X.cells2
  go_enter Tryz.func36, Tryz.ntmps36
  go_wp2_with fail
  clear x0 x1
  refine hv.mono ?_
  rintro e w2 ⟨rfl, hb2⟩
  have X2 := X.after hb2
  have Y2 := Y.after hb2
  obtain ⟨x0, x1⟩ := X2.cells2
  have hw2 := hb1.trans (hb2.mono hb1.size)
  clear hv hb1 hb2 X Y
  go_wp2_with fail
  refine (HS.out w2 hw2).mono ?_
  rintro e w3 ⟨A', n', c', F', m', d', rfl, o1, o2, q1, q2, hb3⟩
  have Y3 := Y2.after hb3
  obtain ⟨y0, y1⟩ := Y3.cells2
  have f0 := Y3.frozen 0
  have f1 := Y3.frozen 1
  have YF := (Y3.set_ 0 (.slice A' n' c')).set_ 1 (.slice F' m' d')
  obtain ⟨z0, z1⟩ : (((w3.setCell ⟨w.heap.size + 1, 0, none⟩ (.slice A' n' c')).setCell ⟨w.heap.size + 1, 1, none⟩ (.slice F' m' d')).cell? ⟨w.heap.size + 1, 0, none⟩ = some (.slice A' n' c')) ∧ (((w3.setCell ⟨w.heap.size + 1, 0, none⟩ (.slice A' n' c')).setCell ⟨w.heap.size + 1, 1, none⟩ (.slice F' m' d')).cell? ⟨w.heap.size + 1, 1, none⟩ = some (.slice F' m' d')) := ⟨YF.cell 0, YF.cell 1⟩
  generalize hqq : dgK v bs = qq at *
  have e1 : some (w.heap.size + 1) ≠ blk A' := OS.typed' o1.os Y3 (by decide)
  have e2 : some (w.heap.size + 1) ≠ blk F' := OS.typed' o2.os Y3 (by decide)
  clear x0 x1 X2 Y2
  go_wp2
  have hw3 := hw2.trans (hb3.mono hw2.size)
  have o1 := (o1.kept (grown_set (g := w.heap.size + 1) (p := 0) (u := .slice A' n' c')) (.inr fun e => e1 e.symm)).kept (grown_set (g := w.heap.size + 1) (p := 1) (u := .slice F' m' d')) (.inr fun e => e1 e.symm)
  have o2 := (o2.kept (grown_set (g := w.heap.size + 1) (p := 0) (u := .slice A' n' c')) (.inr fun e => e2 e.symm)).kept (grown_set (g := w.heap.size + 1) (p := 1) (u := .slice F' m' d')) (.inr fun e => e2 e.symm)
  subst hqq
  refine bodyPost_ret (v := .tuple #[.agg #[.slice A' n' c', .slice F' m' d'], .int .i64 (dgK v bs)]) (by simp [results, Tryz.results36, go_sem, z0, z1]) rfl ?_
  exact ⟨A', n', c', F', m', d', rfl, ⟨o1.reads, o2.reads⟩, q1, q2, (hw3.setCell (p := ⟨w.heap.size + 1, 0, none⟩) (by simp) _).setCell (p := ⟨w.heap.size + 1, 1, none⟩) (by simp) _⟩
set_option maxRecDepth 100000 in
set_option maxHeartbeats 2000000 in
theorem impl_IsomorphicDesigns (v : Int) (A : Option Addr) (n c : Nat) (bs : List (List Int)) (u : Int) (B : Option Addr) (m d : Nat) (ds : List (List Int)) (b : Int) (w : World) (ha : RR w A n bs) (hb : RR w B m ds) (hn : n ≤ 1048576) (hm : m ≤ 1048576) :
    Calls Tryz.prog 11 #[.agg #[.int .i64 v, .slice A n c], .agg #[.int .i64 u, .slice B m d], .int .i64 b] w (fun e w' => e = .returned (.tuple #[.bool (dsgR v bs u ds b), .int .i64 (dsgK v bs u ds b)]) ∧ Below w.heap.size w w') := by
  have hb1 := below_then (below_alloc w (.cells #[.int .i64 v, .slice A n c] 28)) (below_alloc _ (.cells #[.int .i64 u, .slice B m d] 28))
  have X := (Blk.new w 28 #[.int .i64 v, .slice A n c]).alloc (.cells #[.int .i64 u, .slice B m d] 28)
  have Y : Blk ((w.alloc (.cells #[.int .i64 v, .slice A n c] 28)).alloc (.cells #[.int .i64 u, .slice B m d] 28)) (w.heap.size + 1) 28 #[.int .i64 u, .slice B m d] := by
    have := Blk.new (w.alloc (.cells #[.int .i64 v, .slice A n c] 28)) 28 #[.int .i64 u, .slice B m d]
    simpa using this
  have hv1 := validDesign_any v A n c bs _ (ha.keep hb1) (by omega)
  have HV2 := Lib.hid (fun (w' : World) (h : Below w.heap.size w w') => validDesign_any u B m d ds w' (hb.keep h) (by omega))
  generalize hW1 : (w.alloc (.cells #[.int .i64 v, .slice A n c] 28)).alloc (.cells #[.int .i64 u, .slice B m d] 28) = W1 at *
  obtain ⟨x0, x1⟩ := X.cells2
  by_cases h1 : Design v bs
  · rw [tB_yes h1] at hv1
    by_cases h2 : Design u ds
    · have HY := Lib.hid (tB_yes h2)
      obtain ⟨V, rfl⟩ : ∃ V : Nat, v = (V : Int) := ⟨v.toNat, by have := h1.v1; omega⟩
      obtain ⟨U, rfl⟩ : ∃ U : Nat, u = (U : Int) := ⟨u.toNat, by have := h2.v1; omega⟩
      have HK := Lib.hid (show dsgK (V : Int) bs (U : Int) ds b = samC (inB b 1 20000) (dgK V bs) (dgK U ds) (code2P (dgC V bs) (dgE V bs) (dgC U ds) (dgE U ds) b) by rw [dsgK, tB_yes h1, tB_yes h2]; rfl)
      have HR := Lib.hid (show dsgR (V : Int) bs (U : Int) ds b = samB (inB b 1 20000) (dgK V bs) (dgK U ds) (isoP (dgC V bs) (dgE V bs) (dgC U ds) (dgE U ds) b) by rw [dsgR, tB_yes h1, tB_yes h2]; rfl)
      have HG1 := Lib.hid (fun (w' : World) (h : Below w.heap.size w w') => designGraph_any V A n c bs w' (ha.keep h) h1)
      have HG2 := Lib.hid (fun (w' : World) (h : Below w.heap.size w w') => designGraph_any U B m d ds w' (hb.keep h) h2)
      clear h1 h2
      go_enter Tryz.func11, Tryz.ntmps11
      go_wp2_with fail
      clear x0 x1
      refine hv1.mono ?_
      rintro e w1 ⟨rfl, hb2⟩
      have hw1 := hb1.trans (hb2.mono hb1.size)
      have X1 := X.after hb2
      have Y1 := Y.after hb2
      obtain ⟨y0, y1⟩ := Y1.cells2
      clear hv1 hb1 hb2 X Y
      go_wp2_with fail
      clear y0 y1
      refine (HV2.out w1 hw1).mono ?_
      rintro e w2 ⟨rfl, hb2⟩
      rw [HY.out]
      have hw2 := hw1.trans (hb2.mono hw1.size)
      have X2 := X1.after hb2
      have Y2 := Y1.after hb2
      obtain ⟨x0, x1⟩ := X2.cells2
      clear hw1 hb2 X1 Y1
      go_wp2_with fail
      clear x0 x1
      refine (HG1.out w2 hw2).mono ?_
      rintro e w3 ⟨A1, n1, c1, F1, m1, d1, rfl, hG1, q1, q2, hb3⟩
      have hw3 := hw2.trans (hb3.mono hw2.size)
      have Y3 := Y2.after hb3
      have hal := below_alloc w3 (.cells #[.slice A1 n1 c1, .slice F1 m1 d1] 58)
      have hX := Blk.new w3 58 #[.slice A1 n1 c1, .slice F1 m1 d1]
      obtain ⟨y0, y1⟩ := (Y3.after hal).cells2
      clear hw2 hb3 X2 Y2
      go_wp2_with fail
      clear y0 y1
      refine (HG2.out _ (hw3.trans (hal.mono hw3.size))).mono ?_
      rintro e w4 ⟨A2, n2, c2, F2, m2, d2, rfl, hG2, q3, q4, hb4⟩
      have hX4 := hX.after hb4
      have hb34 := hal.trans (hb4.mono (by simp))
      have hG1' := hG1.keep hb34
      have hw4 := hw3.trans (hb34.mono hw3.size)
      have hal4 := below_alloc w4 (.cells #[.slice A2 n2 c2, .slice F2 m2 d2] 58)
      have hY := Blk.new w4 58 #[.slice A2 n2 c2, .slice F2 m2 d2]
      have hX5 := hX4.after hal4
      obtain ⟨x0, x1⟩ := hX5.cells2
      obtain ⟨y0, y1⟩ := hY.cells2
      have hsf := sameForms_any (w4.alloc (.cells #[.slice A2 n2 c2, .slice F2 m2 d2] 58)) A1 n1 c1 F1 m1 d1 (dgC V bs) (dgE V bs) A2 n2 c2 F2 m2 d2 (dgC U ds) (dgE U ds) (dgK V bs) (dgK U ds) b (hG1'.keep hal4) (hG2.keep hal4) (by omega) (by omega) (by omega) (by omega)
      rw [← HK.out, ← HR.out] at hsf
      have hw5 := hw4.trans (hal4.mono hw4.size)
      clear hX hX4 hX5 hY hG1 hG1' hG2 hal hal4 hb34 hb4 hw3 hw4
      go_wp2_with fail
      refine hsf.mono ?_
      rintro e w6 ⟨rfl, hb6⟩
      go_wp2
      go_ret2
      exact ⟨rfl, hw5.trans (hb6.mono hw5.size)⟩
    · have HY := Lib.hid (tB_no h2)
      have HK := Lib.hid (show dsgK v bs u ds b = 1 by rw [dsgK, tB_no h2]; simp)
      have HR := Lib.hid (show dsgR v bs u ds b = false by rw [dsgR, tB_no h2]; simp)
      clear h1 h2
      go_enter Tryz.func11, Tryz.ntmps11
      go_wp2_with fail
      clear x0 x1
      refine hv1.mono ?_
      rintro e w1 ⟨rfl, hb2⟩
      have hw1 := hb1.trans (hb2.mono hb1.size)
      have Y1 := Y.after hb2
      obtain ⟨y0, y1⟩ := Y1.cells2
      clear hv1
      go_wp2_with fail
      clear y0 y1
      refine (HV2.out w1 hw1).mono ?_
      rintro e w2 ⟨rfl, hb2⟩
      rw [HY.out]
      go_wp2
      go_ret2
      exact ⟨by rw [HK.out, HR.out]; rfl, hw1.trans (hb2.mono hw1.size)⟩
  · rw [tB_no h1] at hv1
    have HK := Lib.hid (show dsgK v bs u ds b = 1 by rw [dsgK, tB_no h1]; simp)
    have HR := Lib.hid (show dsgR v bs u ds b = false by rw [dsgR, tB_no h1]; simp)
    clear h1
    go_enter Tryz.func11, Tryz.ntmps11
    go_wp2_with fail
    clear x0 x1
    refine hv1.mono ?_
    rintro e w1 ⟨rfl, hb2⟩
    go_wp2
    go_ret2
    exact ⟨by rw [HK.out, HR.out]; rfl, hb1.trans (hb2.mono hb1.size)⟩
end Go.Proofs.YtaphmapkobbfbaaGreat
