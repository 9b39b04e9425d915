/- Graphs: whether one is valid, on both sides: the walks over the edges. No condition beyond those stated. -/
import Derived.Test.YtncknfhfkmmhbaaGreatZAM
set_option linter.unusedVariables false
set_option linter.unusedSimpArgs false
namespace Go.Proofs.YtncknfhfkmmhbaaGreat
open Go.RowKit

def edgeOk (n : Nat) (e : Ed) : Prop := 0 ≤ e.1 ∧ e.1 < e.2 ∧ e.2 < (n : Int)
def edgesTo (n : Nat) (es : List Ed) (k : Nat) : Prop := (∀ i, i < k → edgeOk n (nthE es i)) ∧ ∀ i, i + 1 < k → lessE (nthE es i) (nthE es (i + 1))
theorem edgesTo_zero (n : Nat) (es : List Ed) : edgesTo n es 0 := ⟨fun _ h => absurd h (by omega), fun _ h => absurd h (by omega)⟩
theorem edgesTo_step {n : Nat} {es : List Ed} {k : Nat} (h : edgesTo n es k) (h1 : edgeOk n (nthE es k)) (h2 : 0 < k → lessE (nthE es (k - 1)) (nthE es k)) : edgesTo n es (k + 1) :=
  ⟨fun j hj => by
    rcases Nat.lt_succ_iff_lt_or_eq.1 hj with h' | h'
    · exact h.1 j h'
    · rw [h']; exact h1,
   fun j hj => by
    rcases Nat.lt_succ_iff_lt_or_eq.1 hj with h' | h'
    · exact h.2 j h'
    · have := h2 (by omega)
      have e : k = j + 1 := h'.symm
      subst e
      simpa using this⟩
theorem graphOk_iff (cs : List Int) (es : List Ed) : GraphOk cs es ↔ colsOk cs ∧ es.length ≤ 512 ∧ edgesTo cs.length es es.length :=
  ⟨fun h => ⟨⟨h.clen, h.col⟩, h.elen, h.edge, h.ord⟩, fun h => ⟨h.1.1, h.2.1, h.1.2, h.2.2.1, h.2.2.2⟩⟩
theorem cmpE_nonneg {a b : Ed} (h : ¬ lessE a b) : 0 ≤ cmpE a b := by
  by_cases h' : cmpE a b < 0
  · exact absurd ((cmpE_neg a b).1 h') h
  · omega
theorem I64.nat {n : Nat} (h : n ≤ 9223372036854775807) : I64 (n : Int) := ⟨by omega, by omega⟩
set_option maxRecDepth 100000 in
set_option maxHeartbeats 4000000 in
theorem validGraph_any (A : Option Addr) (n c : Nat) (F : Option Addr) (m d : Nat) (cs : List Int) (es : List Ed) (w : World) (ha : RG w A n F m cs es) (hn : n ≤ 9223372036854775807) (hm : m ≤ 9223372036854775807) :
    Calls Tryz.prog 33 #[.agg #[.slice A n c, .slice F m d]] w (RetB w (tB (GraphOk cs es))) := by
  have hla := Lib.hid ha.ri.len
  have hlb := Lib.hid ha.re.len
  have HD := Lib.hid (graphOk_iff cs es)
  have hb1 := below_alloc w (.cells #[.slice A n c, .slice F m d] 36)
  have B1 := Blk.new w 36 #[.slice A n c, .slice F m d]
  obtain ⟨hri, hre⟩ := ha
  go_enter Tryz.func33, Tryz.ntmps33
  go_wp2
  go_loopw [8] (fun i wr => ∃ k : Nat, k ≤ m ∧ i = .int .i64 k ∧ Below w.heap.size w wr ∧ Blk wr w.heap.size 36 #[.slice A n c, .slice F m d] ∧ edgesTo n es k) (fun i _ => m - (intOf i).toNat)
  case atStart => exact ⟨0, Nat.zero_le _, rfl, hb1, B1, edgesTo_zero _ _⟩
  case round =>
    clear hb1 B1
    obtain ⟨k, hk, rfl, hb, hB, hto⟩ := hrel
    obtain ⟨x0, x1⟩ := hB.cells2
    by_cases hlt : k < m
    · obtain ⟨g, o, rfl, h1, h2, i1, i2⟩ := (hre.keep hb).get hlt
      have hprev : 0 < k → ∃ e : Ed, nthE es (k - 1) = e ∧ wr.cell? ⟨g, o + (k - 1) * 2, none⟩ = some (.int .i64 e.1) ∧ wr.cell? ⟨g, o + (k - 1) * 2 + 1, none⟩ = some (.int .i64 e.2) ∧ I64 e.1 ∧ I64 e.2 := fun h0 => by
        obtain ⟨g', o', hF, h3, h4, i3, i4⟩ := (hre.keep hb).get (show k - 1 < m by omega)
        injection hF with hF
        injection hF with e1 e2
        subst e1; subst e2
        exact ⟨_, rfl, h3, h4, i3, i4⟩
      have HP := Lib.hid hprev; clear hprev
      have hne : wr.heap.size ≠ w.heap.size := by have := hB.lt; omega
      generalize hek : nthE es k = e at *
      have HE := Lib.hid hek; clear hek
      obtain ⟨x, y⟩ := e
      simp only at h1 h2 i1 i2
      go_wp2
      have hW1 := below_alloc wr (.cells #[.int .i64 x, .int .i64 y] 48)
      have eW := Blk.new wr 48 #[.int .i64 x, .int .i64 y]
      generalize hW : wr.alloc (.cells #[.int .i64 x, .int .i64 y] 48) = W at *
      clear hW
      have hbW := below_then hb hW1
      have hBW := hB.after hW1
      obtain ⟨z0, z1⟩ := eW.cells2
      obtain ⟨y0, y1⟩ := hBW.cells2
      have q0 := cell_bel z0
      have q1 := cell_bel z1
      have q2 := cell_bel y0
      have q3 := cell_bel y1
      have q4 : True := trivial
      have hsz : ∀ p : Bel W, Calls Tryz.prog 32 #[.slice A n c] p.w fun en w' => en = .returned (.int .i64 n) ∧ Below p.w.heap.size p.w w' := fun p => (sizeI_any A n c p.w hn).mono fun _ _ h => ⟨h.1, h.2 ▸ Below.refl _ _⟩
      clear x0 x1 h1 h2 y0 y1 z0 z1 hB hb eW
      have hcW := Lib.hid (show ∀ (p : Addr) (u : Value), wr.cell? p = some u → W.cell? p = some u from fun p u h => below_cell hW1 h)
      clear hW1
      generalize wr.heap.size = ge at *
      by_cases c1 : x < 0
      · skip
        have d1 : decide (x < 0) = true := by simp [c1]
        have H := Lib.hid (show tB (GraphOk cs es) = false from tB_no fun hh => by
          have := (HD.out.1 hh).2.2.1 k (by rw [hlb.out]; exact hlt)
          rw [HE.out] at this
          have := this.1
          simp only at this
          omega)
        clear hto
        refine wp_region_bel (by kernel_rfl) (by kernel_rfl) ?_
        repeat (first | go_big_quiet_step ((fail)) | quiet_step ((fail)))
        refine wpQuiet_nil ?_
        rintro _ ⟨⟨w2, hb2⟩, rfl⟩
        clear q0 q1 q2 q3 q4 hsz
        go_wp2
        go_ret
        exact ⟨by rw [H.out]; rfl, below_then hbW hb2⟩
      · have d1 : decide (x < 0) = false := by simp; omega
        by_cases c2 : y ≤ x
        · skip
          have d2 : decide (y ≤ x) = true := by simp [c2]
          have H := Lib.hid (show tB (GraphOk cs es) = false from tB_no fun hh => by
            have := (HD.out.1 hh).2.2.1 k (by rw [hlb.out]; exact hlt)
            rw [HE.out] at this
            have := this.2.1
            simp only at this
            omega)
          clear hto
          refine wp_region_bel (by kernel_rfl) (by kernel_rfl) ?_
          repeat (first | go_big_quiet_step ((fail)) | quiet_step ((fail)))
          refine wpQuiet_nil ?_
          rintro _ ⟨⟨w2, hb2⟩, rfl⟩
          clear q0 q1 q2 q3 q4 hsz
          go_wp2
          go_ret
          exact ⟨by rw [H.out]; rfl, below_then hbW hb2⟩
        · have d2 : decide (y ≤ x) = false := by simp; omega
          by_cases c3 : (n : Int) ≤ y
          · skip
            have d3 : decide ((n : Int) ≤ y) = true := by simp [c3]
            have H := Lib.hid (show tB (GraphOk cs es) = false from tB_no fun hh => by
              have := (HD.out.1 hh).2.2.1 k (by rw [hlb.out]; exact hlt)
              rw [HE.out, hla.out] at this
              have := this.2.2
              simp only at this
              omega)
            clear hto
            refine wp_region_bel (by kernel_rfl) (by kernel_rfl) ?_
            repeat (first | go_big_quiet_step (((go_at_call 32; exact Calls.bel (hsz _)))) | quiet_step (((go_at_call 32; exact Calls.bel (hsz _)))))
            refine wpQuiet_nil ?_
            rintro _ ⟨⟨w2, hb2⟩, rfl⟩
            clear q0 q1 q2 q3 q4 hsz
            go_wp2
            go_ret
            exact ⟨by rw [H.out]; rfl, below_then hbW hb2⟩
          · have d3 : decide ((n : Int) ≤ y) = false := by simp; omega
            have hok : Hid (edgeOk n (nthE es k)) := Lib.hid (by rw [HE.out]; exact ⟨by simp only; omega, by simp only; omega, by simp only; omega⟩)
            by_cases c4 : k ≤ 0
            · skip
              have d4 : decide ((0 : Int) < (k : Int)) = false := by simp; omega
              have d4a : decide (0 < k) = false := by simp; omega
              have H := Lib.hid (edgesTo_step hto hok.out (fun h => absurd h (by omega)))
              clear hto
              refine wp_region_bel (by kernel_rfl) (by kernel_rfl) ?_
              repeat (first | go_big_quiet_step (((go_at_call 32; exact Calls.bel (hsz _)))) | quiet_step (((go_at_call 32; exact Calls.bel (hsz _)))))
              refine wpQuiet_nil ?_
              rintro _ ⟨⟨w2, hb2⟩, rfl⟩
              clear q0 q1 q2 q3 q4 hsz d4 d4a
              go_wp2
              go_roundw
              case rel => exact ⟨k + 1, by omega, by go_num, below_then hbW hb2, hBW.after hb2, H.out⟩
              case measure => simp [intOf]; omega
            · have h0 : 0 < k := by omega
              obtain ⟨⟨px, py⟩, hpe, p1, p2, i3, i4⟩ := HP.out h0
              have HPE := Lib.hid hpe; clear hpe HP
              simp only at p1 p2 i3 i4
              have q4a := cell_bel (hcW.out _ _ p1)
              have q5 := cell_bel (hcW.out _ _ p2)
              have e1 : IntKind.i64.wrap ((k : Int) - 1) = (k : Int) - 1 := IntWalk.i64_in _ (by omega)
              have e2 : ((k : Int) - 1).toNat = k - 1 := by omega
              have e3 : (0 : Int) ≤ (k : Int) - 1 := by omega
              have d4 : decide ((0 : Int) < (k : Int)) = true := by simp; omega
              have d4a : decide (0 < k) = true := by simp; omega
              have hce : ∀ p : Bel W, Calls Tryz.prog 51 #[.agg #[.int .i64 px, .int .i64 py], .agg #[.int .i64 x, .int .i64 y]] p.w fun en w' => en = .returned (.int .i64 (cmpE (px, py) (x, y))) ∧ Below p.w.heap.size p.w w' := fun p => compareEdges_any px py x y p.w i3 i4 i1 i2
              clear p1 p2 c4
              by_cases c5 : lessE (px, py) (x, y)
              · have hneg := (cmpE_neg (px, py) (x, y)).2 c5
                have d5 : decide (0 ≤ cmpE (px, py) (x, y)) = false := by simp; omega
                have H := Lib.hid (edgesTo_step hto hok.out (fun _ => by rw [HPE.out, HE.out]; exact c5))
                clear hto
                refine wp_region_bel (by kernel_rfl) (by kernel_rfl) ?_
                repeat (first | go_big_quiet_step (((first | (go_at_call 32; exact Calls.bel (hsz _)) | (go_at_call 51; exact Calls.bel (hce _))))) | quiet_step (((first | (go_at_call 32; exact Calls.bel (hsz _)) | (go_at_call 51; exact Calls.bel (hce _))))))
                refine wpQuiet_nil ?_
                rintro _ ⟨⟨w2, hb2⟩, rfl⟩
                clear q0 q1 q2 q3 q4 hsz q4a q5 e1 e2 e3 d4 d4a d5 hce hneg
                go_wp2
                go_roundw
                case rel => exact ⟨k + 1, by omega, by go_num, below_then hbW hb2, hBW.after hb2, H.out⟩
                case measure => simp [intOf]; omega
              · have hnn := cmpE_nonneg c5
                have d5 : decide (0 ≤ cmpE (px, py) (x, y)) = true := by simp; omega
                have H := Lib.hid (show tB (GraphOk cs es) = false from tB_no fun hh => by
                  have := (HD.out.1 hh).2.2.2 (k - 1) (by rw [hlb.out]; omega)
                  rw [show k - 1 + 1 = k by omega, HPE.out, HE.out] at this
                  exact c5 this)
                clear hto
                refine wp_region_bel (by kernel_rfl) (by kernel_rfl) ?_
                repeat (first | go_big_quiet_step (((first | (go_at_call 32; exact Calls.bel (hsz _)) | (go_at_call 51; exact Calls.bel (hce _))))) | quiet_step (((first | (go_at_call 32; exact Calls.bel (hsz _)) | (go_at_call 51; exact Calls.bel (hce _))))))
                refine wpQuiet_nil ?_
                rintro _ ⟨⟨w2, hb2⟩, rfl⟩
                clear q0 q1 q2 q3 q4 hsz q4a q5 e1 e2 e3 d4 d4a d5 hce hnn
                go_wp2
                go_ret
                exact ⟨by rw [H.out]; rfl, below_then hbW hb2⟩
    · have HT := Lib.hid (show edgesTo n es m by rwa [show k = m by omega] at hto)
      clear hto
      have hcol : Calls Tryz.prog 52 #[.slice A n c] wr fun e w' => e = .returned (.bool (tB (colsOk cs))) ∧ wr = w' := areColors_any A n c cs _ (hri.keep hb) hn
      cases hc : tB (colsOk cs) with
      | false =>
        rw [hc] at hcol
        have H := Lib.hid (show tB (GraphOk cs es) = false from tB_no fun hh => by rw [tB_yes (HD.out.1 hh).1] at hc; cases hc)
        clear hc
        go_wp2_with (go_at_call 52; refine hcol.mono ?_; rintro e w' ⟨rfl, rfl⟩)
        go_ret
        exact ⟨by rw [H.out]; rfl, hb⟩
      | true =>
        rw [hc] at hcol
        by_cases h5 : m ≤ 512
        · have H := Lib.hid (show tB (GraphOk cs es) = true from tB_yes (HD.out.2 ⟨tB_true.1 hc, by rw [hlb.out]; exact h5, by rw [hlb.out, hla.out]; exact HT.out⟩))
          clear hc
          go_wp2_with (go_at_call 52; refine hcol.mono ?_; rintro e w' ⟨rfl, rfl⟩)
          go_ret
          exact ⟨by rw [H.out]; exact ret_bool (by simp; omega), hb⟩
        · have H := Lib.hid (show tB (GraphOk cs es) = false from tB_no fun hh => h5 (by have := (HD.out.1 hh).2.1; rw [hlb.out] at this; exact this))
          clear hc
          go_wp2_with (go_at_call 52; refine hcol.mono ?_; rintro e w' ⟨rfl, rfl⟩)
          go_ret
          exact ⟨by rw [H.out]; exact ret_bool (by simp; omega), hb⟩
end Go.Proofs.YtncknfhfkmmhbaaGreat
