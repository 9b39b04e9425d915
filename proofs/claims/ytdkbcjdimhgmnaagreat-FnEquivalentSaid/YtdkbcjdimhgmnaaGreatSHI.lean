/- Whether two squares' graphs are isomorphic, both sides. No condition beyond those stated. -/
import Derived.Test.YtdkbcjdimhgmnaaGreatSHH
import Derived.Test.YtdkbcjdimhgmnaaGreatSGX
set_option linter.unusedVariables false
set_option linter.unusedSimpArgs false
namespace Go.Proofs.YtdkbcjdimhgmnaaGreat
open Go.RowKit
def samC (i : Bool) (p q c : Int) : Int := if i then (if p ≠ 0 then p else if q ≠ 0 then q else c) else 2
def samB (i : Bool) (p q : Int) (r : Bool) : Bool := if i then (if p ≠ 0 then false else if q ≠ 0 then false else r) else false
theorem sam_no (p q c : Int) (r : Bool) : samC false p q c = 2 ∧ samB false p q r = false := ⟨rfl, rfl⟩
theorem sam_p {p : Int} (h : p ≠ 0) (q c : Int) (r : Bool) : samC true p q c = p ∧ samB true p q r = false := by simp [samC, samB, h]
theorem sam_q {q : Int} (h : q ≠ 0) (c : Int) (r : Bool) : samC true 0 q c = q ∧ samB true 0 q r = false := by simp [samC, samB, h]
theorem sam_ok (c : Int) (r : Bool) : samC true 0 0 c = c ∧ samB true 0 0 r = r := by simp [samC, samB]
set_option maxRecDepth 100000 in
set_option maxHeartbeats 2000000 in
theorem sameForms_any (w : World) (A : Option Addr) (n c : Nat) (F : Option Addr) (m d : Nat) (cs : List Int) (es : List Ed) (A' : Option Addr) (n' c' : Nat) (F' : Option Addr) (m' d' : Nat) (ds : List Int) (fs : List Ed) (p q b : Int) (hG : RG w A n F m cs es) (hH : RG w A' n' F' m' ds fs) (hn : n ≤ 9223372036854775807) (hm : m ≤ 9223372036854775807) (hn' : n' ≤ 9223372036854775807) (hm' : m' ≤ 9223372036854775807) :
    Calls Tryz.prog 43 #[.agg #[.slice A n c, .slice F m d], .agg #[.slice A' n' c', .slice F' m' d'], .int .i64 p, .int .i64 q, .int .i64 b] w (fun e w' => e = .returned (.tuple #[.bool (samB (inB b 1 20000) p q (isoP cs es ds fs b)), .int .i64 (samC (inB b 1 20000) p q (code2P cs es ds fs b))]) ∧ Below w.heap.size w w') := by
  have hb1 := below_then (below_alloc w (.cells #[.slice A n c, .slice F m d] 46)) (below_alloc _ (.cells #[.slice A' n' c', .slice F' m' d'] 46))
  have X := (Blk.new w 46 #[.slice A n c, .slice F m d]).alloc (.cells #[.slice A' n' c', .slice F' m' d'] 46)
  have Y : Blk ((w.alloc (.cells #[.slice A n c, .slice F m d] 46)).alloc (.cells #[.slice A' n' c', .slice F' m' d'] 46)) (w.heap.size + 1) 46 #[.slice A' n' c', .slice F' m' d'] := by
    have := Blk.new (w.alloc (.cells #[.slice A n c, .slice F m d] 46)) 46 #[.slice A' n' c', .slice F' m' d']
    simpa using this
  have hG1 := hG.keep hb1
  have hH1 := hH.keep hb1
  generalize hW1 : (w.alloc (.cells #[.slice A n c, .slice F m d] 46)).alloc (.cells #[.slice A' n' c', .slice F' m' d'] 46) = W1 at *
  have hcall := impl_IsomorphicGraphs A n c F m d cs es A' n' c' F' m' d' ds fs b W1 hG1 hH1 hn hm hn' hm'
  obtain ⟨x0, x1⟩ := X.cells2
  obtain ⟨y0, y1⟩ := Y.cells2
  cases hi : inB b 1 20000 with
  | false =>
    have HR := Lib.hid (sam_no p q (code2P cs es ds fs b) (isoP cs es ds fs b))
    go_enter Tryz.func43, Tryz.ntmps43
    go_wp2_with (go_at_call 100; refine (isBudget_any _ _).mono ?_; rintro e w' ⟨rfl, rfl⟩; rw [hi])
    go_ret2
    exact ⟨by rw [HR.out.1, HR.out.2]; rfl, hb1⟩
  | true =>
    by_cases hp : p = 0
    · subst hp
      by_cases hq : q = 0
      · subst hq
        have HR := Lib.hid (sam_ok (code2P cs es ds fs b) (isoP cs es ds fs b))
        go_enter Tryz.func43, Tryz.ntmps43
        go_wp2_with (first | (go_at_call 100; refine (isBudget_any _ _).mono ?_; rintro e w' ⟨rfl, rfl⟩; rw [hi]) | (go_at_call 101; refine hcall.mono ?_; rintro e w2 ⟨rfl, hb2⟩))
        go_ret2
        exact ⟨by rw [HR.out.1, HR.out.2]; rfl, hb1.trans (hb2.mono hb1.size)⟩
      · have HR := Lib.hid (sam_q hq (code2P cs es ds fs b) (isoP cs es ds fs b))
        have hq' : (q != 0) = true := by simp [hq]
        clear hq
        go_enter Tryz.func43, Tryz.ntmps43
        go_wp2_with (go_at_call 100; refine (isBudget_any _ _).mono ?_; rintro e w' ⟨rfl, rfl⟩; rw [hi])
        go_ret2
        exact ⟨by rw [HR.out.1, HR.out.2]; rfl, hb1⟩
    · have HR := Lib.hid (sam_p hp q (code2P cs es ds fs b) (isoP cs es ds fs b))
      have hp' : (p != 0) = true := by simp [hp]
      clear hp
      go_enter Tryz.func43, Tryz.ntmps43
      go_wp2_with (go_at_call 100; refine (isBudget_any _ _).mono ?_; rintro e w' ⟨rfl, rfl⟩; rw [hi])
      go_ret2
      exact ⟨by rw [HR.out.1, HR.out.2]; rfl, hb1⟩
end Go.Proofs.YtdkbcjdimhgmnaaGreat
