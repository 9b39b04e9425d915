/- What the searches of both sides hand back; the number of automorphisms and the size of a search. No condition beyond those stated. -/
import Derived.Test.YtdkbcjdimhgmnaaGreatSGU
set_option linter.unusedVariables false
set_option linter.unusedSimpArgs false
namespace Go.Proofs.YtdkbcjdimhgmnaaGreat
open Go.RowKit
def RetY (w : World) (A : Option Addr) (n c : Nat) (F : Option Addr) (m d : Nat) (cs : List Int) (es : List Ed) (b : Int) (e : Ending) (w' : World) : Prop :=
  Below w.heap.size w w' ∧ ∃ v, e = .returned (.tuple #[.pointer v, .int .i64 (codeP cs es b)]) ∧ (codeP cs es b = 0 → ∃ w0 : World, v = some ⟨w0.heap.size, 0, none⟩ ∧ Below w.heap.size w w0 ∧ (runP cs es b.toNat).spent = false ∧ GraphOk cs es ∧ b.toNat ≤ 20000 ∧
    ∃ N cN BA bn bc FA fn fk FF fm fd, XS w0 w' A n c F m d N n cN BA bn bc FA fn fk FF fm fd (runP cs es b.toNat))
theorem explored_any' (w : World) (A : Option Addr) (n c : Nat) (F : Option Addr) (m d : Nat) (cs : List Int) (es : List Ed) (b : Int) (hG : RG w A n F m cs es) (hn : n ≤ 9223372036854775807) (hm : m ≤ 9223372036854775807) :
    Calls Tryz.prog 141 #[.agg #[.slice A n c, .slice F m d], .int .i64 b] w (RetY w A n c F m d cs es b) := by
  refine (explored_any w A n c F m d cs es b hG hn hm).mono ?_
  rintro e w' ⟨hb, h⟩
  refine ⟨hb, ?_⟩
  rcases h with ⟨h1, rfl⟩ | ⟨h1, h2, rfl⟩ | ⟨h1, h2, h3, rfl⟩ | ⟨h1, h2, h3, w0, rfl, h4, N, cN, BA, bn, bc, FA, fn, fk, FF, fm, fd, h5⟩
  · have hC : codeP cs es b = 1 := by rw [codeP, tB_no h1]; simp
    exact ⟨none, by rw [hC], fun h => by rw [hC] at h; cases h⟩
  · have hC : codeP cs es b = 2 := by rw [codeP, tB_yes h1, h2]; simp
    exact ⟨none, by rw [hC], fun h => by rw [hC] at h; cases h⟩
  · have hC : codeP cs es b = 5 := by rw [codeP, tB_yes h1, h2]; simp [h3]
    exact ⟨none, by rw [hC], fun h => by rw [hC] at h; cases h⟩
  · have hC : codeP cs es b = 0 := by rw [codeP, tB_yes h1, h2]; simp [h3]
    exact ⟨_, by rw [hC], fun _ => ⟨w0, rfl, h4, h3, h1, by have := inB_true h2; omega, _, _, _, _, _, _, _, _, _, _, _, h5⟩⟩
theorem codeP_cases (cs : List Int) (es : List Ed) (b : Int) : codeP cs es b = 0 ∨ (codeP cs es b ≠ 0 ∧ (codeP cs es b != 0) = true) := by
  by_cases h : codeP cs es b = 0
  · exact .inl h
  · exact .inr ⟨h, by simp [h]⟩
end Go.Proofs.YtdkbcjdimhgmnaaGreat
