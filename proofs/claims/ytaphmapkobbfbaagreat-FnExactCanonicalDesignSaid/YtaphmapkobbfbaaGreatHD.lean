/- AutomorphismsOf, both sides. No condition beyond those stated. -/
import Derived.Test.YtaphmapkobbfbaaGreatGX
import Derived.Test.YtaphmapkobbfbaaGreatHA
set_option linter.unusedVariables false
set_option linter.unusedSimpArgs false
namespace Go.Proofs.YtaphmapkobbfbaaGreat
open Go.RowKit

/-- rows that read so, and a code -/
def ReadRC (w : World) (zss : List (List Int)) (code : Int) (en : Ending) (w' : World) : Prop := ∃ A n c, en = .returned (.tuple #[.slice A n c, .int .i64 code]) ∧ RR w' A n zss ∧ Below w.heap.size w w'
noncomputable def autC (cs : List Int) (es : List Ed) (b : Int) : Int := if codeP cs es b = 0 ∧ 720 < (runP cs es b.toNat).best.length then 5 else codeP cs es b
noncomputable def autR (cs : List Int) (es : List Ed) (b : Int) : List (List Int) := if codeP cs es b = 0 ∧ ¬ 720 < (runP cs es b.toNat).best.length then setG cmpL (autL (runP cs es b.toNat).best) else []
theorem autC_ne {cs : List Int} {es : List Ed} {b : Int} (h : codeP cs es b ≠ 0) : autC cs es b = codeP cs es b ∧ autR cs es b = [] := by
  rw [autC, autR, if_neg (fun k => h k.1), if_neg (fun k => h k.1)]
  exact ⟨rfl, rfl⟩
theorem autC_big {cs : List Int} {es : List Ed} {b : Int} (h : codeP cs es b = 0) (k : 720 < (runP cs es b.toNat).best.length) : autC cs es b = 5 ∧ autR cs es b = [] := by
  rw [autC, autR, if_pos ⟨h, k⟩, if_neg (fun q => q.2 k)]
  exact ⟨rfl, rfl⟩
theorem autC_ok {cs : List Int} {es : List Ed} {b : Int} (h : codeP cs es b = 0) (k : ¬ 720 < (runP cs es b.toNat).best.length) : autC cs es b = 0 ∧ autR cs es b = setG cmpL (autL (runP cs es b.toNat).best) := by
  rw [autC, autR, if_neg (fun q => k q.2), if_pos ⟨h, k⟩]
  exact ⟨h, rfl⟩
theorem run_perms (cs : List Int) (es : List Ed) (b : Nat) : PermsOf cs.length (runP cs es b).best := fun k hk => by
  have := runP_rows cs es b (row (runP cs es b).best k) (by rw [row_get hk]; exact List.getElem_mem hk)
  exact ⟨this.1.len, this.2⟩
theorem run_nodup {cs : List Int} {es : List Ed} {b : Nat} (h : (runP cs es b).spent = false) : (autL (runP cs es b).best).Nodup := autsP_nodup h
end Go.Proofs.YtaphmapkobbfbaaGreat
