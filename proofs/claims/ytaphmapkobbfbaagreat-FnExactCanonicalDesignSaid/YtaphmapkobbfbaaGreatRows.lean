/-
  No cell of these rows narrows 'for every input' (looked for: loops, veiled, ifaces, maps, wideKeys, modest, calm, conditions, laid).
  DERIVED. THE GIVEN ROWS OF THIS SEAT. 5 by the template 'for every input the law returns true; each argument reads behind the call as it read before'; 0 by the template 'total and deterministic' (their statements: YtaphmapkobbfbaaGreatTotals.lean).
  GIVEN WITH THE SEED: the statements are not yours to turn. If you find one false, say at which input.
  Laid BY PROGRAM, IN A SANDBOX (cutbox-rows.mjs): the forced cells as the released guide's own fill.sh prints them over the translation b335add42fb0451d… (all of the seat's roots in one cut). By AI agents, Wed Nov 11 2026. No macro, syntax, notation, axiom, sorry.
-/
import Derived.Test.YtaphmapkobbfbaaGreatChecked
import GoSem.Claim
import GoSem.ClaimJoined
import GoSem.ClaimMapViews
import Derived.JoinedTies
import Derived.KernelRfl
namespace Go.Proofs.YtaphmapkobbfbaaGreat
/- THE CELL 'sum', in the pinned program and in every row, IS THE sha256 OF THE DUMP (.gsa) THAT YtaphmapkobbfbaaGreatProg.lean LOADS. Nothing in Lean hashes anything: it is a label: what it is worth is what the hold of that sum in a sandbox is worth. -/
noncomputable def Tryz.pinned : Pinned := { name := "ytaphmapkobbfbaagreat", sum := "b335add42fb0451d946ae07eff6a0d5e11dc7f3267344b3c81e006cad3e34024", checked := Tryz.checked }
namespace Rows
def none {H : Type} : Left H := { results := [], args := [] }

/-- 'laws.FnExactIsomorphicDesigns': WHATEVER THE INPUT: true; the input reads as it did. -/
def fnExactIsomorphicDesignsSpec : ChangeSpec := { name := "fnExactIsomorphicDesigns", fn := fun _ => fun
  | [d1, d2, d3] => { results := [.lit (.bool true)], args := [d1, d2, d3] }
  | _ => none }
def fnExactIsomorphicDesignsRow : OpenClaim := { program := "ytaphmapkobbfbaagreat", sum := "b335add42fb0451d946ae07eff6a0d5e11dc7f3267344b3c81e006cad3e34024", func := "loop.example/g00920/laws.FnExactIsomorphicDesigns", spec := "fnExactIsomorphicDesigns", unfollowed := true, recurses := true, apart := false }
def FnExactIsomorphicDesignsSaid : Prop := fnExactIsomorphicDesignsRow.holds Tryz.pinned (OpenSpec.ofChange fnExactIsomorphicDesignsSpec)

/-- ITS FALSE NEIGHBOUR: 'it returns false'. Refute it at one input. -/
def fnExactIsomorphicDesignsWrong : ChangeSpec := { name := "fnExactIsomorphicDesigns", fn := fun _ => fun
  | [d1, d2, d3] => { results := [.lit (.bool false)], args := [d1, d2, d3] }
  | _ => none }
def FnExactIsomorphicDesignsWrongFalsely : Prop := fnExactIsomorphicDesignsRow.holds Tryz.pinned (OpenSpec.ofChange fnExactIsomorphicDesignsWrong)

/-- 'laws.FnExactIsotopicSquares': WHATEVER THE INPUT: true; the input reads as it did. -/
def fnExactIsotopicSquaresSpec : ChangeSpec := { name := "fnExactIsotopicSquares", fn := fun _ => fun
  | [d1, d2, d3] => { results := [.lit (.bool true)], args := [d1, d2, d3] }
  | _ => none }
def fnExactIsotopicSquaresRow : OpenClaim := { program := "ytaphmapkobbfbaagreat", sum := "b335add42fb0451d946ae07eff6a0d5e11dc7f3267344b3c81e006cad3e34024", func := "loop.example/g00920/laws.FnExactIsotopicSquares", spec := "fnExactIsotopicSquares", unfollowed := true, recurses := true, apart := false }
def FnExactIsotopicSquaresSaid : Prop := fnExactIsotopicSquaresRow.holds Tryz.pinned (OpenSpec.ofChange fnExactIsotopicSquaresSpec)

/-- ITS FALSE NEIGHBOUR: 'it returns false'. Refute it at one input. -/
def fnExactIsotopicSquaresWrong : ChangeSpec := { name := "fnExactIsotopicSquares", fn := fun _ => fun
  | [d1, d2, d3] => { results := [.lit (.bool false)], args := [d1, d2, d3] }
  | _ => none }
def FnExactIsotopicSquaresWrongFalsely : Prop := fnExactIsotopicSquaresRow.holds Tryz.pinned (OpenSpec.ofChange fnExactIsotopicSquaresWrong)

/-- 'laws.FnExactSameMainClass': WHATEVER THE INPUT: true; the input reads as it did. -/
def fnExactSameMainClassSpec : ChangeSpec := { name := "fnExactSameMainClass", fn := fun _ => fun
  | [d1, d2, d3] => { results := [.lit (.bool true)], args := [d1, d2, d3] }
  | _ => none }
def fnExactSameMainClassRow : OpenClaim := { program := "ytaphmapkobbfbaagreat", sum := "b335add42fb0451d946ae07eff6a0d5e11dc7f3267344b3c81e006cad3e34024", func := "loop.example/g00920/laws.FnExactSameMainClass", spec := "fnExactSameMainClass", unfollowed := true, recurses := true, apart := false }
def FnExactSameMainClassSaid : Prop := fnExactSameMainClassRow.holds Tryz.pinned (OpenSpec.ofChange fnExactSameMainClassSpec)

/-- ITS FALSE NEIGHBOUR: 'it returns false'. Refute it at one input. -/
def fnExactSameMainClassWrong : ChangeSpec := { name := "fnExactSameMainClass", fn := fun _ => fun
  | [d1, d2, d3] => { results := [.lit (.bool false)], args := [d1, d2, d3] }
  | _ => none }
def FnExactSameMainClassWrongFalsely : Prop := fnExactSameMainClassRow.holds Tryz.pinned (OpenSpec.ofChange fnExactSameMainClassWrong)

/-- 'laws.FnExactCanonicalDesign': WHATEVER THE INPUT: true; the input reads as it did. -/
def fnExactCanonicalDesignSpec : ChangeSpec := { name := "fnExactCanonicalDesign", fn := fun _ => fun
  | [d1, d2] => { results := [.lit (.bool true)], args := [d1, d2] }
  | _ => none }
def fnExactCanonicalDesignRow : OpenClaim := { program := "ytaphmapkobbfbaagreat", sum := "b335add42fb0451d946ae07eff6a0d5e11dc7f3267344b3c81e006cad3e34024", func := "loop.example/g00920/laws.FnExactCanonicalDesign", spec := "fnExactCanonicalDesign", unfollowed := true, recurses := true, apart := false }
def FnExactCanonicalDesignSaid : Prop := fnExactCanonicalDesignRow.holds Tryz.pinned (OpenSpec.ofChange fnExactCanonicalDesignSpec)

/-- ITS FALSE NEIGHBOUR: 'it returns false'. Refute it at one input. -/
def fnExactCanonicalDesignWrong : ChangeSpec := { name := "fnExactCanonicalDesign", fn := fun _ => fun
  | [d1, d2] => { results := [.lit (.bool false)], args := [d1, d2] }
  | _ => none }
def FnExactCanonicalDesignWrongFalsely : Prop := fnExactCanonicalDesignRow.holds Tryz.pinned (OpenSpec.ofChange fnExactCanonicalDesignWrong)

/-- 'laws.FnExactDesignGroup': WHATEVER THE INPUT: true; the input reads as it did. -/
def fnExactDesignGroupSpec : ChangeSpec := { name := "fnExactDesignGroup", fn := fun _ => fun
  | [d1, d2] => { results := [.lit (.bool true)], args := [d1, d2] }
  | _ => none }
def fnExactDesignGroupRow : OpenClaim := { program := "ytaphmapkobbfbaagreat", sum := "b335add42fb0451d946ae07eff6a0d5e11dc7f3267344b3c81e006cad3e34024", func := "loop.example/g00920/laws.FnExactDesignGroup", spec := "fnExactDesignGroup", unfollowed := true, recurses := true, apart := false }
def FnExactDesignGroupSaid : Prop := fnExactDesignGroupRow.holds Tryz.pinned (OpenSpec.ofChange fnExactDesignGroupSpec)

/-- ITS FALSE NEIGHBOUR: 'it returns false'. Refute it at one input. -/
def fnExactDesignGroupWrong : ChangeSpec := { name := "fnExactDesignGroup", fn := fun _ => fun
  | [d1, d2] => { results := [.lit (.bool false)], args := [d1, d2] }
  | _ => none }
def FnExactDesignGroupWrongFalsely : Prop := fnExactDesignGroupRow.holds Tryz.pinned (OpenSpec.ofChange fnExactDesignGroupWrong)

/- THE SECOND FORM. 'bulk': how many values and letters a reading holds, each counted each time it is reached (what is shared counts as often as it is met; a slice's spare places count too). A statement '..UptoSaid' is the law's where the arguments, and the package variables that the reading takes, are together of bulk at most 1048576: NARROWER than '..Said'. Prove '..Said' where nothing that the law and all that it calls make is longer than what came in: it says more and counts as full. Else prove '..UptoSaid'. A law counts once. -/
mutual
def uptoBulk {H : Type} : DataW H → Nat
  | .lit (.string bytes) => bytes.length + 1
  | .lit _ => 1
  | .nil => 1
  | .ptr d => uptoBulk d + 1
  | .slice elems spare => uptoBulkAll elems + uptoBulkAll spare + 1
  | .agg parts => uptoBulkAll parts + 1
  | .iface _ d => uptoBulk d + 1
  | .map entries => uptoBulkEntries entries + 1
  | .held _ => 1
def uptoBulkAll {H : Type} : List (DataW H) → Nat
  | [] => 0
  | d :: r => uptoBulk d + uptoBulkAll r
def uptoBulkEntries {H : Type} : List (Lit × DataW H) → Nat
  | [] => 0
  | x :: r => uptoBulkEntry x + uptoBulkEntries r
def uptoBulkEntry {H : Type} : Lit × DataW H → Nat
  | (.string bytes, d) => bytes.length + uptoBulk d + 1
  | (_, d) => uptoBulk d + 1
 end
def uptoSmall : (H : Type) → List (DataW H) → Bool := fun _ ds => decide (uptoBulkAll ds ≤ 1048576)
def OpenSpec.upto (s : _root_.Go.ChangeSpec) : _root_.Go.OpenSpec := { _root_.Go.OpenSpec.ofChange s with cond := some uptoSmall }

/-- 'laws.FnExactIsomorphicDesigns', WHERE WHAT IT READS IS OF BULK AT MOST 1048576: true; the input reads as it did. -/
def fnExactIsomorphicDesignsUptoRow : OpenClaim := { program := "ytaphmapkobbfbaagreat", sum := "b335add42fb0451d946ae07eff6a0d5e11dc7f3267344b3c81e006cad3e34024", func := "loop.example/g00920/laws.FnExactIsomorphicDesigns", spec := "fnExactIsomorphicDesigns", unfollowed := true, recurses := true, apart := false, narrowed := true }
def FnExactIsomorphicDesignsUptoSaid : Prop := fnExactIsomorphicDesignsUptoRow.holds Tryz.pinned (OpenSpec.upto fnExactIsomorphicDesignsSpec)

/-- 'laws.FnExactIsotopicSquares', WHERE WHAT IT READS IS OF BULK AT MOST 1048576: true; the input reads as it did. -/
def fnExactIsotopicSquaresUptoRow : OpenClaim := { program := "ytaphmapkobbfbaagreat", sum := "b335add42fb0451d946ae07eff6a0d5e11dc7f3267344b3c81e006cad3e34024", func := "loop.example/g00920/laws.FnExactIsotopicSquares", spec := "fnExactIsotopicSquares", unfollowed := true, recurses := true, apart := false, narrowed := true }
def FnExactIsotopicSquaresUptoSaid : Prop := fnExactIsotopicSquaresUptoRow.holds Tryz.pinned (OpenSpec.upto fnExactIsotopicSquaresSpec)

/-- 'laws.FnExactSameMainClass', WHERE WHAT IT READS IS OF BULK AT MOST 1048576: true; the input reads as it did. -/
def fnExactSameMainClassUptoRow : OpenClaim := { program := "ytaphmapkobbfbaagreat", sum := "b335add42fb0451d946ae07eff6a0d5e11dc7f3267344b3c81e006cad3e34024", func := "loop.example/g00920/laws.FnExactSameMainClass", spec := "fnExactSameMainClass", unfollowed := true, recurses := true, apart := false, narrowed := true }
def FnExactSameMainClassUptoSaid : Prop := fnExactSameMainClassUptoRow.holds Tryz.pinned (OpenSpec.upto fnExactSameMainClassSpec)

/-- 'laws.FnExactCanonicalDesign', WHERE WHAT IT READS IS OF BULK AT MOST 1048576: true; the input reads as it did. -/
def fnExactCanonicalDesignUptoRow : OpenClaim := { program := "ytaphmapkobbfbaagreat", sum := "b335add42fb0451d946ae07eff6a0d5e11dc7f3267344b3c81e006cad3e34024", func := "loop.example/g00920/laws.FnExactCanonicalDesign", spec := "fnExactCanonicalDesign", unfollowed := true, recurses := true, apart := false, narrowed := true }
def FnExactCanonicalDesignUptoSaid : Prop := fnExactCanonicalDesignUptoRow.holds Tryz.pinned (OpenSpec.upto fnExactCanonicalDesignSpec)

/-- 'laws.FnExactDesignGroup', WHERE WHAT IT READS IS OF BULK AT MOST 1048576: true; the input reads as it did. -/
def fnExactDesignGroupUptoRow : OpenClaim := { program := "ytaphmapkobbfbaagreat", sum := "b335add42fb0451d946ae07eff6a0d5e11dc7f3267344b3c81e006cad3e34024", func := "loop.example/g00920/laws.FnExactDesignGroup", spec := "fnExactDesignGroup", unfollowed := true, recurses := true, apart := false, narrowed := true }
def FnExactDesignGroupUptoSaid : Prop := fnExactDesignGroupUptoRow.holds Tryz.pinned (OpenSpec.upto fnExactDesignGroupSpec)

end Rows
end Go.Proofs.YtaphmapkobbfbaaGreat
