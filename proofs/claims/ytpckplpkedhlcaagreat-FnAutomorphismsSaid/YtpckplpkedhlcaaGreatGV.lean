/- What the searches of both sides hand back; the number of automorphisms and the size of a search. No condition beyond those stated. -/
import Derived.Test.YtpckplpkedhlcaaGreatGU
import Derived.Test.YtpckplpkedhlcaaGreatGB
set_option linter.unusedVariables false
set_option linter.unusedSimpArgs false
namespace Go.Proofs.YtpckplpkedhlcaaGreat
open Go.RowKit

/-- what the program's search hands back -/
def RetY (w : World) (A : Option Addr) (n c : Nat) (F : Option Addr) (m d : Nat) (cs : List Int) (es : List Ed) (b : Int) (e : Ending) (w' : World) : Prop :=
  Below w.heap.size w w' ∧ ∃ v, e = .returned (.tuple #[.pointer v, .int .i64 (codeP cs es b)]) ∧ (codeP cs es b = 0 → ∃ w0 : World, v = some ⟨w0.heap.size, 0, none⟩ ∧ Below w.heap.size w w0 ∧ (runP cs es b.toNat).spent = false ∧ GraphOk cs es ∧ b.toNat ≤ 20000 ∧
    ∃ N cN BA bn bc FA fn fk FF fm fd, XS w0 w' A n c F m d N n cN BA bn bc FA fn fk FF fm fd (runP cs es b.toNat))
theorem explored_any' (w : World) (A : Option Addr) (n c : Nat) (F : Option Addr) (m d : Nat) (cs : List Int) (es : List Ed) (b : Int) (hG : RG w A n F m cs es) (hn : n ≤ 9223372036854775807) (hm : m ≤ 9223372036854775807) :
    Calls Tryz.prog 45 #[.agg #[.slice A n c, .slice F m d], .int .i64 b] w (RetY w A n c F m d cs es b) := by
  refine (explored_any w A n c F m d cs es b hG hn hm).mono ?_
  rintro e w' ⟨hb, h⟩
  refine ⟨hb, ?_⟩
  rcases h with ⟨h1, rfl⟩ | ⟨h1, h2, rfl⟩ | ⟨h1, h2, h3, rfl⟩ | ⟨h1, h2, h3, w0, rfl, h4, N, cN, BA, bn, bc, FA, fn, fk, FF, fm, fd, h5⟩
  · have hC : codeP cs es b = 1 := by rw [codeP, tB_no h1]; simp
    exact ⟨none, by rw [hC], fun h => by rw [hC] at h; cases h⟩
  · have hC : codeP cs es b = 2 := by rw [codeP, tB_yes h1, h2]; simp
    exact ⟨none, by rw [hC], fun h => by rw [hC] at h; cases h⟩
  · have hC : codeP cs es b = 5 := by rw [codeP, tB_yes h1, h2]; simp [h3]
    exact ⟨none, by rw [hC], fun h => by rw [hC] at h; cases h⟩
  · have hC : codeP cs es b = 0 := by rw [codeP, tB_yes h1, h2]; simp [h3]
    exact ⟨_, by rw [hC], fun _ => ⟨w0, rfl, h4, h3, h1, by have := inB_true h2; omega, _, _, _, _, _, _, _, _, _, _, _, h5⟩⟩
theorem codeP_cases (cs : List Int) (es : List Ed) (b : Int) : codeP cs es b = 0 ∨ (codeP cs es b ≠ 0 ∧ (codeP cs es b != 0) = true) := by
  by_cases h : codeP cs es b = 0
  · exact .inl h
  · exact .inr ⟨h, by simp [h]⟩
noncomputable def countP' (cs : List Int) (es : List Ed) (b : Int) : Int := if codeP cs es b = 0 then ((runP cs es b.toNat).best.length : Int) else 0
noncomputable def nodesP (cs : List Int) (es : List Ed) (b : Int) : Int := if codeP cs es b = 0 then ((runP cs es b.toNat).nodes : Int) else 0
noncomputable def leavesP (cs : List Int) (es : List Ed) (b : Int) : Int := if codeP cs es b = 0 then ((runP cs es b.toNat).leaves : Int) else 0
set_option maxHeartbeats 1000000 in
theorem impl_CountAutomorphisms (A : Option Addr) (n c : Nat) (F : Option Addr) (m d : Nat) (cs : List Int) (es : List Ed) (b : Int) (w : World) (hG : RG w A n F m cs es) (hn : n ≤ 9223372036854775807) (hm : m ≤ 9223372036854775807) :
    Calls Tryz.prog 10 #[.agg #[.slice A n c, .slice F m d], .int .i64 b] w (fun e w' => e = .returned (.tuple #[.int .i64 (countP' cs es b), .int .i64 (codeP cs es b)]) ∧ Below w.heap.size w w') := by
  have hb1 := below_alloc w (.cells #[.slice A n c, .slice F m d] 27)
  have hx := explored_any' _ A n c F m d cs es b (hG.keep hb1) hn hm
  rcases codeP_cases cs es b with h0 | ⟨h0, h1⟩
  · have HC := Lib.hid h0
    have HN := Lib.hid (show countP' cs es b = ((runP cs es b.toNat).best.length : Int) by rw [countP', if_pos h0])
    have hbn := runP_len cs es b.toNat
    clear h0
    go_enter Tryz.func10, Tryz.ntmps10
    go_wp2_with (first | (go_at_call 45; refine hx.mono ?_; rintro e w2 ⟨hb2, v, rfl, hv⟩; obtain ⟨w0, rfl, hb0, -, -, hb20, N, cN, BA, bn, bc, FA, fn, fk, FF, fm, fd, hX⟩ := hv HC.out; clear hv; rw [HC.out]; have q9 := hX.cells.2.2.2.2.2; have hbl := Lib.hid (show (runP cs es b.toNat).best.length = bn from (hX.sb.best.choose_spec.1.slen)); have hbn2 : bn ≤ 20001 := by (have := hbl.out; omega)) | (go_at_call 49; refine (sizeR_any _ _ _ _ (by omega)).mono ?_; rintro e w3 ⟨rfl, rfl⟩))
    go_ret2
    exact ⟨by rw [HN.out, HC.out, hbl.out]; rfl, hb1.trans (hb2.mono hb1.size)⟩
  · have HC := Lib.hid h0
    have HN := Lib.hid (show countP' cs es b = 0 by rw [countP', if_neg h0])
    clear h0
    go_enter Tryz.func10, Tryz.ntmps10
    go_wp2_with (go_at_call 45; refine hx.mono ?_; rintro e w2 ⟨hb2, v, rfl, hv⟩; clear hv)
    go_ret2
    exact ⟨by rw [HN.out]; rfl, hb1.trans (hb2.mono hb1.size)⟩
end Go.Proofs.YtpckplpkedhlcaaGreat
