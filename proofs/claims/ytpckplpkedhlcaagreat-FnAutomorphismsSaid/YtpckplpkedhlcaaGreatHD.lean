/- AutomorphismsOf, both sides. No condition beyond those stated. -/
import Derived.Test.YtpckplpkedhlcaaGreatGX
import Derived.Test.YtpckplpkedhlcaaGreatHA
set_option linter.unusedVariables false
set_option linter.unusedSimpArgs false
namespace Go.Proofs.YtpckplpkedhlcaaGreat
open Go.RowKit

/-- rows that read so, and a code -/
def ReadRC (w : World) (zss : List (List Int)) (code : Int) (en : Ending) (w' : World) : Prop := ∃ A n c, en = .returned (.tuple #[.slice A n c, .int .i64 code]) ∧ RR w' A n zss ∧ Below w.heap.size w w'
noncomputable def autC (cs : List Int) (es : List Ed) (b : Int) : Int := if codeP cs es b = 0 ∧ 720 < (runP cs es b.toNat).best.length then 5 else codeP cs es b
noncomputable def autR (cs : List Int) (es : List Ed) (b : Int) : List (List Int) := if codeP cs es b = 0 ∧ ¬ 720 < (runP cs es b.toNat).best.length then setG cmpL (autL (runP cs es b.toNat).best) else []
theorem autC_ne {cs : List Int} {es : List Ed} {b : Int} (h : codeP cs es b ≠ 0) : autC cs es b = codeP cs es b ∧ autR cs es b = [] := by
  rw [autC, autR, if_neg (fun k => h k.1), if_neg (fun k => h k.1)]
  exact ⟨rfl, rfl⟩
theorem autC_big {cs : List Int} {es : List Ed} {b : Int} (h : codeP cs es b = 0) (k : 720 < (runP cs es b.toNat).best.length) : autC cs es b = 5 ∧ autR cs es b = [] := by
  rw [autC, autR, if_pos ⟨h, k⟩, if_neg (fun q => q.2 k)]
  exact ⟨rfl, rfl⟩
theorem autC_ok {cs : List Int} {es : List Ed} {b : Int} (h : codeP cs es b = 0) (k : ¬ 720 < (runP cs es b.toNat).best.length) : autC cs es b = 0 ∧ autR cs es b = setG cmpL (autL (runP cs es b.toNat).best) := by
  rw [autC, autR, if_neg (fun q => k q.2), if_pos ⟨h, k⟩]
  exact ⟨h, rfl⟩
theorem run_perms (cs : List Int) (es : List Ed) (b : Nat) : PermsOf cs.length (runP cs es b).best := fun k hk => by
  have := runP_rows cs es b (row (runP cs es b).best k) (by rw [row_get hk]; exact List.getElem_mem hk)
  exact ⟨this.1.len, this.2⟩
theorem run_nodup {cs : List Int} {es : List Ed} {b : Nat} (h : (runP cs es b).spent = false) : (autL (runP cs es b).best).Nodup := autsP_nodup h
set_option maxRecDepth 100000 in
set_option maxHeartbeats 2000000 in
theorem impl_AutomorphismsOf (A : Option Addr) (n c : Nat) (F : Option Addr) (m d : Nat) (cs : List Int) (es : List Ed) (b : Int) (w : World) (hG : RG w A n F m cs es) (hn : n ≤ 9223372036854775807) (hm : m ≤ 9223372036854775807) :
    Calls Tryz.prog 9 #[.agg #[.slice A n c, .slice F m d], .int .i64 b] w (RetRC w 24 2 (autR cs es b) (autC cs es b)) := by
  have hb1 := below_alloc w (.cells #[.slice A n c, .slice F m d] 27)
  have hx := explored_any' _ A n c F m d cs es b (hG.keep hb1) hn hm
  rcases codeP_cases cs es b with h0 | ⟨h0, h1⟩
  · have HC := Lib.hid h0
    obtain ⟨s1, s2, s3⟩ := codeP_ok h0
    have hbl := runP_len cs es b.toNat
    have hc64 := s2.clen
    have HP := Lib.hid (run_perms cs es b.toNat)
    have HN := Lib.hid (run_nodup s1)
    have HB := Lib.hid (runP_best s1)
    by_cases hk : 720 < (runP cs es b.toNat).best.length
    · have HR := Lib.hid (autC_big h0 hk)
      clear h0 s1 s2
      go_enter Tryz.func9, Tryz.ntmps9
      go_wp2_with fail
      refine hx.mono ?_
      rintro e w2 ⟨hb2, v, rfl, hv⟩
      obtain ⟨w0, rfl, hb0, -, -, -, N, cN, BA, bn, bc, FA, fn, fk, FF, fm, fd, hX⟩ := hv HC.out
      rw [HC.out]
      obtain ⟨vs, hbv, -⟩ := hX.sb.best
      have hbn := hbv.slen
      have c9 := hX.cells.2.2.2.2.2
      have hbn9 : (bn : Int) > 720 := by omega
      clear hbl hk hv hX hbv hbn
      go_wp2
      go_ret2
      exact ⟨_, _, _, by rw [HR.out.1]; rfl, by rw [HR.out.2]; exact OR.nil_ _ _ (by decide), hb1.trans (hb2.mono hb1.size)⟩
    · have HR := Lib.hid (autC_ok h0 hk)
      clear h0 s1 s2
      go_enter Tryz.func9, Tryz.ntmps9
      go_wp2_with fail
      refine hx.mono ?_
      rintro e w2 ⟨hb2, v, rfl, hv⟩
      obtain ⟨w0, rfl, hb0, -, -, -, N, cN, BA, bn, bc, FA, fn, fk, FF, fm, fd, hX⟩ := hv HC.out
      rw [HC.out]
      obtain ⟨vs, hbv, -⟩ := hX.sb.best
      have hbn := hbv.slen
      have c9 := hX.cells.2.2.2.2.2
      have hbn0 : 0 < bn := by rw [← hbn]; exact List.length_pos_iff.2 HB.out
      have hbn9 : ¬ (bn : Int) > 720 := by omega
      have hau := automorphisms_any w2 w0.heap.size BA bn bc _ cs.length c9 hbv.reads hbn0 (by omega) (by omega) HP.out
      have HBN := Lib.hid hbn
      generalize runP cs es b.toNat = s at *
      clear hbl hk hv hX hbv hbn hx
      go_wp2_with fail
      refine hau.mono ?_
      rintro e w3 ⟨A3, n3, c3, rfl, ho3, hb3⟩
      obtain rfl : n3 = bn := by rw [← ho3.len, autL_len, HBN.out]
      have hso := sortOwn_any w2.heap.size A3 n3 c3 _ w3 ho3 (by omega) hbn0 HN.out
      go_wp2_with fail
      refine hso.mono ?_
      rintro e w4 ⟨rfl, ho4, hg4⟩
      have hw2 := hb1.trans (hb2.mono hb1.size)
      have hw3 := hw2.trans (hb3.mono hw2.size)
      obtain ⟨vs3, hv3⟩ := ho3
      have hw4 := below_own hw3 hg4 hw3.size (fun k hk => by have := (hv3.os.lt hk).1; have := hw2.size; omega)
      have ho5 := ho4.more hw2.size
      clear hso hau hb3 hb2 ho4 hg4 hv3
      go_wp2
      go_ret2
      exact ⟨_, _, _, by rw [HR.out.1]; rfl, by rw [HR.out.2]; exact ho5, hw4⟩
  · have HR := Lib.hid (autC_ne h0)
    clear h0
    go_enter Tryz.func9, Tryz.ntmps9
    go_wp2_with fail
    refine hx.mono ?_
    rintro e w2 ⟨hb2, v, rfl, -⟩
    go_wp2
    go_ret2
    exact ⟨_, _, _, by rw [HR.out.1]; rfl, by rw [HR.out.2]; exact OR.nil_ _ _ (by decide), hb1.trans (hb2.mono hb1.size)⟩
end Go.Proofs.YtpckplpkedhlcaaGreat
