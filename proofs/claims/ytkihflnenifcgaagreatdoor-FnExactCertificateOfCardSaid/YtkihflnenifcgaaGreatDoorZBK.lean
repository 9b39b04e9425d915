/- Two searches, both sides; whether two graphs are isomorphic. No condition beyond those stated. -/
import Derived.Test.YtkihflnenifcgaaGreatDoorZBI
import Derived.Test.YtkihflnenifcgaaGreatDoorZBJ
import Derived.Deep.RegionHeldLaw
set_option linter.unusedVariables false
set_option linter.unusedSimpArgs false
namespace Go.Proofs.YtkihflnenifcgaaGreatDoor
open Go.RowKit

/-- the code of two searches -/
noncomputable def code2P (cs : List Int) (es : List Ed) (ds : List Int) (fs : List Ed) (b : Int) : Int := if tB (GraphOk cs es) && tB (GraphOk ds fs) then (if codeP cs es b ≠ 0 then codeP cs es b else codeP ds fs b) else 1
theorem code2_no1 {cs : List Int} {es : List Ed} (ds : List Int) (fs : List Ed) (b : Int) (h : ¬ GraphOk cs es) : code2P cs es ds fs b = 1 := by rw [code2P, tB_no h]; simp
theorem code2_no2 (cs : List Int) (es : List Ed) {ds : List Int} {fs : List Ed} (b : Int) (h : ¬ GraphOk ds fs) : code2P cs es ds fs b = 1 := by rw [code2P, tB_no h]; simp
theorem code2_ne {cs : List Int} {es : List Ed} {ds : List Int} {fs : List Ed} {b : Int} (h : GraphOk cs es) (k : GraphOk ds fs) (h1 : codeP cs es b ≠ 0) : code2P cs es ds fs b = codeP cs es b := by rw [code2P, tB_yes h, tB_yes k]; simp [h1]
theorem code2_eq {cs : List Int} {es : List Ed} {ds : List Int} {fs : List Ed} {b : Int} (h : GraphOk cs es) (k : GraphOk ds fs) (h1 : codeP cs es b = 0) : code2P cs es ds fs b = codeP ds fs b := by rw [code2P, tB_yes h, tB_yes k]; simp [h1]
theorem code2_zero {cs : List Int} {es : List Ed} {ds : List Int} {fs : List Ed} {b : Int} (h : code2P cs es ds fs b = 0) : GraphOk cs es ∧ GraphOk ds fs ∧ codeP cs es b = 0 ∧ codeP ds fs b = 0 := by
  by_cases h1 : GraphOk cs es
  · by_cases h2 : GraphOk ds fs
    · by_cases h3 : codeP cs es b = 0
      · rw [code2_eq h1 h2 h3] at h
        exact ⟨h1, h2, h3, h⟩
      · rw [code2_ne h1 h2 h3] at h
        exact absurd h h3
    · rw [code2_no2 cs es b h2] at h; cases h
  · rw [code2_no1 ds fs b h1] at h; cases h
theorem codeP_ok {cs : List Int} {es : List Ed} {b : Int} (h : codeP cs es b = 0) : (runP cs es b.toNat).spent = false ∧ GraphOk cs es ∧ b.toNat ≤ 20000 := by
  unfold codeP at h
  cases h1 : tB (GraphOk cs es) with
  | false => rw [h1] at h; simp at h
  | true =>
    cases h2 : inB b 1 20000 with
    | false => rw [h1, h2] at h; simp at h
    | true =>
      cases h3 : (runP cs es b.toNat).spent with
      | true => rw [h1, h2, h3] at h; simp at h
      | false => exact ⟨rfl, tB_true.1 h1, by have := inB_true h2; omega⟩
/-- a search's state, the program's -/
def OneX (w w' : World) (v : Option Addr) (A : Option Addr) (n c : Nat) (F : Option Addr) (m d : Nat) (s : St) : Prop := ∃ w0 : World, v = some ⟨w0.heap.size, 0, none⟩ ∧ Below w.heap.size w w0 ∧ ∃ N cN BA bn bc FA fn fk FF fm fd, XS w0 w' A n c F m d N n cN BA bn bc FA fn fk FF fm fd s
theorem OneX.step {w w' w'' : World} {v : Option Addr} {A : Option Addr} {n c : Nat} {F : Option Addr} {m d : Nat} {s : St} (h : OneX w w' v A n c F m d s) (hb : Below w'.heap.size w' w'') : OneX w w'' v A n c F m d s := by
  obtain ⟨w0, h1, h2, N, cN, BA, bn, bc, FA, fn, fk, FF, fm, fd, hX⟩ := h
  exact ⟨w0, h1, h2, N, cN, BA, bn, bc, FA, fn, fk, FF, fm, fd, hX.step hb⟩
theorem OneX.from {w w' w1 : World} {v : Option Addr} {A : Option Addr} {n c : Nat} {F : Option Addr} {m d : Nat} {s : St} (h : OneX w w' v A n c F m d s) (hb : Below w1.heap.size w1 w) : OneX w1 w' v A n c F m d s := by
  obtain ⟨w0, h1, h2, r⟩ := h
  exact ⟨w0, h1, hb.trans (h2.mono hb.size), r⟩
theorem RetY.one {w w' : World} {A : Option Addr} {n c : Nat} {F : Option Addr} {m d : Nat} {cs : List Int} {es : List Ed} {b : Int} {e : Ending} (h : RetY w A n c F m d cs es b e w') :
    Below w.heap.size w w' ∧ ∃ v, e = .returned (.tuple #[.pointer v, .int .i64 (codeP cs es b)]) ∧ (codeP cs es b = 0 → OneX w w' v A n c F m d (runP cs es b.toNat)) := by
  obtain ⟨h1, v, h2, h3⟩ := h
  refine ⟨h1, v, h2, fun h0 => ?_⟩
  obtain ⟨w0, h4, h5, _, _, _, h6⟩ := h3 h0
  exact ⟨w0, h4, h5, h6⟩
/-- what two searches hand back -/
def Ret2X (w : World) (A : Option Addr) (n c : Nat) (F : Option Addr) (m d : Nat) (cs : List Int) (es : List Ed) (A' : Option Addr) (n' c' : Nat) (F' : Option Addr) (m' d' : Nat) (ds : List Int) (fs : List Ed) (b : Int) (e : Ending) (w' : World) : Prop :=
  Below w.heap.size w w' ∧ ∃ v u, e = .returned (.tuple #[.pointer v, .pointer u, .int .i64 (code2P cs es ds fs b)]) ∧ (code2P cs es ds fs b = 0 → OneX w w' v A n c F m d (runP cs es b.toNat) ∧ OneX w w' u A' n' c' F' m' d' (runP ds fs b.toNat))
/-- whether the forms of two searches are the same -/
def sameP (s t : St) : Bool := sameG s.fc s.fe t.fc t.fe
noncomputable def isoP (cs : List Int) (es : List Ed) (ds : List Int) (fs : List Ed) (b : Int) : Bool := if code2P cs es ds fs b = 0 then sameP (runP cs es b.toNat) (runP ds fs b.toNat) else false
theorem code2_cases (cs : List Int) (es : List Ed) (ds : List Int) (fs : List Ed) (b : Int) : code2P cs es ds fs b = 0 ∨ (code2P cs es ds fs b ≠ 0 ∧ (code2P cs es ds fs b != 0) = true) := by
  by_cases h : code2P cs es ds fs b = 0
  · exact .inl h
  · exact .inr ⟨h, by simp [h]⟩
end Go.Proofs.YtkihflnenifcgaaGreatDoor
