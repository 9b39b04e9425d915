/- The edges of a graph as one list of numbers. No condition beyond those stated. -/
import Derived.Test.YtdkbcjdimhgmnaaGreatSGO
set_option linter.unusedVariables false
set_option linter.unusedSimpArgs false
namespace Go.Proofs.YtdkbcjdimhgmnaaGreat
open Go.RowKit
theorem flatE_step {es : List Ed} {k : Nat} (h : k < es.length) : flatE (es.take (k + 1)) = flatE (es.take k) ++ [(nthE es k).1, (nthE es k).2] := by
  rw [List.take_succ_eq_append_getElem h, nthE_get h]
  unfold flatE
  rw [List.flatMap_append]
  rfl
set_option maxRecDepth 100000 in
set_option maxHeartbeats 2000000 in
theorem flat_any (F : Option Addr) (m d : Nat) (es : List Ed) (w : World) (hr : RE w F m es) (hm : m ≤ 1048576) :
    Calls Tryz.prog 275 #[.slice F m d] w (RetI w 2 (flatE es)) := by
  have hle := Lib.hid hr.len
  obtain ⟨ii, hi, hi0, hi1, hi2⟩ := info_parts edge_info
  have ho0 : OI w w.heap.size 2 none (2 * 0) 0 (flatE (es.take 0)) := OI.nil_ _ _ _
  have hb0 : Below w.heap.size w w := Below.refl _ _
  go_enter Tryz.func275, Tryz.ntmps275
  go_wp2
  go_loopw [3, 8] (fun v i wr => ∃ (k : Nat) (T : Option Addr) (q : Nat), k ≤ m ∧ i = .int .i64 k ∧ v = .slice T (2 * k) q ∧ OI wr w.heap.size 2 T (2 * k) q (flatE (es.take k)) ∧ Below w.heap.size w wr) (fun _ i _ => m - (intOf i).toNat)
  case atStart => exact ⟨0, _, _, Nat.zero_le _, rfl, rfl, ho0, hb0⟩
  case round =>
    clear ho0 hb0
    obtain ⟨k, T, q, hk, rfl, rfl, ho, hw⟩ := hrel
    by_cases hlt : k < m
    · obtain ⟨ge, oe, rfl, ce1, ce2, i1, i2⟩ := hr.get hlt
      have hst := Lib.hid (flatE_step (es := es) (k := k) (by rw [hle.out]; exact hlt))
      generalize nthE es k = e at *
      obtain ⟨x, y⟩ := e
      simp only at ce1 ce2 i1 i2 hst
      have c1 := below_cell hw ce1
      have c2 := below_cell hw ce2
      obtain ⟨e1, e2⟩ := (Blk.new wr 113 #[.int .i64 x, .int .i64 y]).cells2
      generalize hW1 : wr.alloc (.cells #[.int .i64 x, .int .i64 y] 113) = W1 at *
      have b1 : Below wr.heap.size wr W1 := by rw [← hW1]; exact below_alloc wr _
      have hL : OI (W1.alloc (.cells #[.int .i64 x, .int .i64 y] 2)) w.heap.size 2 (some ⟨W1.heap.size, 0, none⟩) 2 2 [x, y] := OI.lit W1 w.heap.size 2 [x, y] (Nat.le_trans hw.size b1.size) (by simp) (fun z hz => by simp at hz; rcases hz with rfl | rfl <;> assumption)
      have b2 := below_alloc W1 (.cells #[.int .i64 x, .int .i64 y] 2)
      have ho1 := (ho.below b1).below b2
      have hw1 := (hw.trans (b1.mono hw.size)).trans (b2.mono (Nat.le_trans hw.size b1.size))
      clear ho hw
      go_wp2_with (at_builtin; refine app_ints _ rfl (.tmp 12) (.tmp 17) rfl w.heap.size T (2 * k) q _ rfl ho1 (some ⟨W1.heap.size, 0, none⟩) 2 2 [x, y] rfl hL.reads (by omega) hw1.size ?_; intro A' c' w3 ho3 hg3 hn3)
      have hw3 := below_own hw1 hg3 hw1.size (fun b hb => (ho1.os.lt hb).1)
      rw [← hst.out] at ho3
      go_roundw
      case rel => exact ⟨k + 1, _, _, by omega, by go_num, rfl, ho3, hw3⟩
      case measure => simp [intOf]; omega
    · obtain rfl : k = m := by omega
      rw [List.take_of_length_le (by rw [hle.out]; exact Nat.le_refl _)] at ho
      go_wp2
      go_ret
      exact ⟨_, _, _, rfl, ho, hw⟩
theorem cmpF_ne {c1 c2 : List Int} {e1 e2 : List Ed} (h : cmpL c1 c2 ≠ 0) : cmpF c1 e1 c2 e2 = cmpL c1 c2 := by rw [cmpF, if_pos h]
theorem cmpF_eq {c1 c2 : List Int} {e1 e2 : List Ed} (h : cmpL c1 c2 = 0) : cmpF c1 e1 c2 e2 = cmpL (flatE e1) (flatE e2) := by rw [cmpF, if_neg (by simp [h])]
theorem flatE_len (es : List Ed) : (flatE es).length = 2 * es.length := by
  induction es with
  | nil => rfl
  | cons e r ih =>
    have : flatE (e :: r) = [e.1, e.2] ++ flatE r := rfl
    rw [this]; simp; omega
set_option maxRecDepth 100000 in
set_option maxHeartbeats 4000000 in
theorem compareForms_any (A : Option Addr) (n c : Nat) (F : Option Addr) (m d : Nat) (cs : List Int) (es : List Ed) (A' : Option Addr) (n' c' : Nat) (F' : Option Addr) (m' d' : Nat) (cs' : List Int) (es' : List Ed) (w : World) (ha : RG w A n F m cs es) (hb : RG w A' n' F' m' cs' es') (hn : n ≤ 4096) (hn' : n' ≤ 4096) (hm : m ≤ 1048576) (hm' : m' ≤ 1048576) :
    Calls Tryz.prog 254 #[.agg #[.slice A n c, .slice F m d], .agg #[.slice A' n' c', .slice F' m' d']] w (fun e w' => e = .returned (.int .i64 (cmpF cs es cs' es')) ∧ Below w.heap.size w w') := by
  have hb1 := below_then (below_alloc w (.cells #[.slice A n c, .slice F m d] 46)) (below_alloc _ (.cells #[.slice A' n' c', .slice F' m' d'] 46))
  have X := (Blk.new w 46 #[.slice A n c, .slice F m d]).alloc (.cells #[.slice A' n' c', .slice F' m' d'] 46)
  have Y : Blk ((w.alloc (.cells #[.slice A n c, .slice F m d] 46)).alloc (.cells #[.slice A' n' c', .slice F' m' d'] 46)) (w.heap.size + 1) 46 #[.slice A' n' c', .slice F' m' d'] := by
    have := Blk.new (w.alloc (.cells #[.slice A n c, .slice F m d] 46)) 46 #[.slice A' n' c', .slice F' m' d']
    simpa using this
  generalize hW : (w.alloc (.cells #[.slice A n c, .slice F m d] 46)).alloc (.cells #[.slice A' n' c', .slice F' m' d'] 46) = W at *
  have haW := ha.keep hb1
  have hbW := hb.keep hb1
  obtain ⟨x0, x1⟩ := X.cells2
  obtain ⟨y0, y1⟩ := Y.cells2
  have hl1 := flatE_len es
  have hl2 := flatE_len es'
  have hle := haW.re.len
  have hle' := hbW.re.len
  have hsc := fun W => slicesCompare_any A A' n n' c c' cs cs' W
  clear X Y
  by_cases h : cmpL cs cs' = 0
  · have HC := Lib.hid (cmpF_eq (e1 := es) (e2 := es') h)
    have h' : (cmpL cs cs' != 0) = false := by simp [h]
    go_enter Tryz.func254, Tryz.ntmps254
    go_wp2_with (go_at_call 85; refine (hsc W haW.ri hbW.ri (by omega) (by omega)).mono ?_; rintro e w2 ⟨rfl, rfl⟩; rw [h])
    have hf1 := fun (W' : World) (hb : Below W.heap.size W W') => flat_any F m d es W' (haW.re.keep hb) hm
    have hf2 := fun (W' : World) (hb : Below W.heap.size W W') => flat_any F' m' d' es' W' (hbW.re.keep hb) hm'
    have HF1 := Lib.hid hf1
    have HF2 := Lib.hid hf2
    clear hf1 hf2 hsc
    have x1' := x1
    have y1' := y1
    clear x0 y0 x1 y1 hW hl1 hl2 hle hle' h' h
    go_region_held_law (fun w' => Below W.heap.size W w' ∧ w'.cell? ⟨w.heap.size, 1, none⟩ = some (.slice F m d) ∧ w'.cell? ⟨w.heap.size + 1, 1, none⟩ = some (.slice F' m' d'))
      (first | exact ⟨below_drewn _ 1, x1', y1'⟩ | exact ⟨by assumption, below_cell (by assumption) x1', below_cell (by assumption) y1'⟩)
      (first
        | (go_at_call 275; (with_reducible refine (HF1.out _ ?_).mono ?_); (exact below_drewn _ 1); rintro e w3 ⟨A3, n3, c3, rfl, ho3, hb3⟩; have hX3 : Below W.heap.size W w3 := (below_drewn _ 1).trans (hb3.mono (Nat.le_refl _)))
        | (go_at_call 275; (with_reducible refine (HF2.out _ ?_).mono ?_); (exact hX3); rintro e w4 ⟨A4, n4, c4, rfl, ho4, hb4⟩; have hX4 : Below W.heap.size W w4 := hX3.trans (hb4.mono hX3.size); have ho3' := ho3.below hb4)
        | (go_at_call 85; (with_reducible refine (slicesCompare_any _ _ _ _ _ _ _ _ _ ho3'.reads ho4.reads ?_ ?_).mono ?_); (have := ho3'.os.cap; omega); (have := ho4.os.cap; omega); rintro e w5 ⟨rfl, rfl⟩))
    go_wp2
    go_ret
    exact ⟨by rw [HC.out]; rfl, hb1.trans (hX4.mono hb1.size)⟩
  · have HC := Lib.hid (cmpF_ne (e1 := es) (e2 := es') h)
    have h' : (cmpL cs cs' != 0) = true := by simp [h]
    clear h
    go_enter Tryz.func254, Tryz.ntmps254
    go_wp2_with (go_at_call 85; refine (hsc W haW.ri hbW.ri (by omega) (by omega)).mono ?_; rintro e w2 ⟨rfl, rfl⟩)
    go_ret
    exact ⟨by rw [HC.out]; rfl, hb1⟩
end Go.Proofs.YtdkbcjdimhgmnaaGreat
