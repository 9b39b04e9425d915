/-
  No cell of these rows narrows 'for every input' (looked for: loops, veiled, ifaces, maps, wideKeys, modest, calm, conditions, laid).
  DERIVED. THE GIVEN ROWS OF THIS SEAT. 4 by the template 'for every input the law returns true; each argument reads behind the call as it read before'; 0 by the template 'total and deterministic' (their statements: YtdkbcjdimhgmnaaGreatTotals.lean).
  GIVEN WITH THE SEED: the statements are not yours to turn. If you find one false, say at which input.
  Laid BY PROGRAM, IN A SANDBOX (cutbox-rows.mjs): the forced cells as the released guide's own fill.sh prints them over the translation fd37674d8535dfaf… (all of the seat's roots in one cut). By AI agents, Wed Nov 11 2026. No macro, syntax, notation, axiom, sorry.
-/
import Derived.Test.YtdkbcjdimhgmnaaGreatChecked
import GoSem.Claim
import GoSem.ClaimJoined
import GoSem.ClaimMapViews
import Derived.JoinedTies
import Derived.KernelRfl
namespace Go.Proofs.YtdkbcjdimhgmnaaGreat
/- THE CELL 'sum', in the pinned program and in every row, IS THE sha256 OF THE DUMP (.gsa) THAT YtdkbcjdimhgmnaaGreatProg.lean LOADS. Nothing in Lean hashes anything: it is a label: what it is worth is what the hold of that sum in a sandbox is worth. -/
noncomputable def Tryz.pinned : Pinned := { name := "ytdkbcjdimhgmnaagreat", sum := "fd37674d8535dfaf46602e77bc9f0340c0bc30a2cf382041de157008ccc3f5bd", checked := Tryz.checked }
namespace Rows
def none {H : Type} : Left H := { results := [], args := [] }

/-- 'laws.FnExactEquivalentCodes': WHATEVER THE INPUT: true; the input reads as it did. -/
def fnExactEquivalentCodesSpec : ChangeSpec := { name := "fnExactEquivalentCodes", fn := fun _ => fun
  | [d1, d2, d3] => { results := [.lit (.bool true)], args := [d1, d2, d3] }
  | _ => none }
def fnExactEquivalentCodesRow : OpenClaim := { program := "ytdkbcjdimhgmnaagreat", sum := "fd37674d8535dfaf46602e77bc9f0340c0bc30a2cf382041de157008ccc3f5bd", func := "loop.example/g00920/laws.FnExactEquivalentCodes", spec := "fnExactEquivalentCodes", unfollowed := true, recurses := true, apart := false }
def FnExactEquivalentCodesSaid : Prop := fnExactEquivalentCodesRow.holds Tryz.pinned (OpenSpec.ofChange fnExactEquivalentCodesSpec)

/-- ITS FALSE NEIGHBOUR: 'it returns false'. Refute it at one input. -/
def fnExactEquivalentCodesWrong : ChangeSpec := { name := "fnExactEquivalentCodes", fn := fun _ => fun
  | [d1, d2, d3] => { results := [.lit (.bool false)], args := [d1, d2, d3] }
  | _ => none }
def FnExactEquivalentCodesWrongFalsely : Prop := fnExactEquivalentCodesRow.holds Tryz.pinned (OpenSpec.ofChange fnExactEquivalentCodesWrong)

/-- 'laws.FnEquivalent': WHATEVER THE INPUT: true; the input reads as it did. -/
def fnEquivalentSpec : ChangeSpec := { name := "fnEquivalent", fn := fun _ => fun
  | [d1, d2] => { results := [.lit (.bool true)], args := [d1, d2] }
  | _ => none }
def fnEquivalentRow : OpenClaim := { program := "ytdkbcjdimhgmnaagreat", sum := "fd37674d8535dfaf46602e77bc9f0340c0bc30a2cf382041de157008ccc3f5bd", func := "loop.example/g00920/laws.FnEquivalent", spec := "fnEquivalent", unfollowed := true, recurses := true, apart := false }
def FnEquivalentSaid : Prop := fnEquivalentRow.holds Tryz.pinned (OpenSpec.ofChange fnEquivalentSpec)

/-- ITS FALSE NEIGHBOUR: 'it returns false'. Refute it at one input. -/
def fnEquivalentWrong : ChangeSpec := { name := "fnEquivalent", fn := fun _ => fun
  | [d1, d2] => { results := [.lit (.bool false)], args := [d1, d2] }
  | _ => none }
def FnEquivalentWrongFalsely : Prop := fnEquivalentRow.holds Tryz.pinned (OpenSpec.ofChange fnEquivalentWrong)

/-- 'laws.FnIsotopic': WHATEVER THE INPUT: true; the input reads as it did. -/
def fnIsotopicSpec : ChangeSpec := { name := "fnIsotopic", fn := fun _ => fun
  | [d1, d2] => { results := [.lit (.bool true)], args := [d1, d2] }
  | _ => none }
def fnIsotopicRow : OpenClaim := { program := "ytdkbcjdimhgmnaagreat", sum := "fd37674d8535dfaf46602e77bc9f0340c0bc30a2cf382041de157008ccc3f5bd", func := "loop.example/g00920/laws.FnIsotopic", spec := "fnIsotopic", unfollowed := true, recurses := true, apart := false }
def FnIsotopicSaid : Prop := fnIsotopicRow.holds Tryz.pinned (OpenSpec.ofChange fnIsotopicSpec)

/-- ITS FALSE NEIGHBOUR: 'it returns false'. Refute it at one input. -/
def fnIsotopicWrong : ChangeSpec := { name := "fnIsotopic", fn := fun _ => fun
  | [d1, d2] => { results := [.lit (.bool false)], args := [d1, d2] }
  | _ => none }
def FnIsotopicWrongFalsely : Prop := fnIsotopicRow.holds Tryz.pinned (OpenSpec.ofChange fnIsotopicWrong)

/-- 'laws.FnIsomorphic': WHATEVER THE INPUT: true; the input reads as it did. -/
def fnIsomorphicSpec : ChangeSpec := { name := "fnIsomorphic", fn := fun _ => fun
  | [d1, d2] => { results := [.lit (.bool true)], args := [d1, d2] }
  | _ => none }
def fnIsomorphicRow : OpenClaim := { program := "ytdkbcjdimhgmnaagreat", sum := "fd37674d8535dfaf46602e77bc9f0340c0bc30a2cf382041de157008ccc3f5bd", func := "loop.example/g00920/laws.FnIsomorphic", spec := "fnIsomorphic", unfollowed := true, recurses := true, apart := false }
def FnIsomorphicSaid : Prop := fnIsomorphicRow.holds Tryz.pinned (OpenSpec.ofChange fnIsomorphicSpec)

/-- ITS FALSE NEIGHBOUR: 'it returns false'. Refute it at one input. -/
def fnIsomorphicWrong : ChangeSpec := { name := "fnIsomorphic", fn := fun _ => fun
  | [d1, d2] => { results := [.lit (.bool false)], args := [d1, d2] }
  | _ => none }
def FnIsomorphicWrongFalsely : Prop := fnIsomorphicRow.holds Tryz.pinned (OpenSpec.ofChange fnIsomorphicWrong)

/- THE SECOND FORM. 'bulk': how many values and letters a reading holds, each counted each time it is reached (what is shared counts as often as it is met; a slice's spare places count too). A statement '..UptoSaid' is the law's where the arguments, and the package variables that the reading takes, are together of bulk at most 1048576: NARROWER than '..Said'. Prove '..Said' where nothing that the law and all that it calls make is longer than what came in: it says more and counts as full. Else prove '..UptoSaid'. A law counts once. -/
mutual
def uptoBulk {H : Type} : DataW H → Nat
  | .lit (.string bytes) => bytes.length + 1
  | .lit _ => 1
  | .nil => 1
  | .ptr d => uptoBulk d + 1
  | .slice elems spare => uptoBulkAll elems + uptoBulkAll spare + 1
  | .agg parts => uptoBulkAll parts + 1
  | .iface _ d => uptoBulk d + 1
  | .map entries => uptoBulkEntries entries + 1
  | .held _ => 1
def uptoBulkAll {H : Type} : List (DataW H) → Nat
  | [] => 0
  | d :: r => uptoBulk d + uptoBulkAll r
def uptoBulkEntries {H : Type} : List (Lit × DataW H) → Nat
  | [] => 0
  | x :: r => uptoBulkEntry x + uptoBulkEntries r
def uptoBulkEntry {H : Type} : Lit × DataW H → Nat
  | (.string bytes, d) => bytes.length + uptoBulk d + 1
  | (_, d) => uptoBulk d + 1
 end
def uptoSmall : (H : Type) → List (DataW H) → Bool := fun _ ds => decide (uptoBulkAll ds ≤ 1048576)
def OpenSpec.upto (s : _root_.Go.ChangeSpec) : _root_.Go.OpenSpec := { _root_.Go.OpenSpec.ofChange s with cond := some uptoSmall }

/-- 'laws.FnExactEquivalentCodes', WHERE WHAT IT READS IS OF BULK AT MOST 1048576: true; the input reads as it did. -/
def fnExactEquivalentCodesUptoRow : OpenClaim := { program := "ytdkbcjdimhgmnaagreat", sum := "fd37674d8535dfaf46602e77bc9f0340c0bc30a2cf382041de157008ccc3f5bd", func := "loop.example/g00920/laws.FnExactEquivalentCodes", spec := "fnExactEquivalentCodes", unfollowed := true, recurses := true, apart := false, narrowed := true }
def FnExactEquivalentCodesUptoSaid : Prop := fnExactEquivalentCodesUptoRow.holds Tryz.pinned (OpenSpec.upto fnExactEquivalentCodesSpec)

/-- 'laws.FnEquivalent', WHERE WHAT IT READS IS OF BULK AT MOST 1048576: true; the input reads as it did. -/
def fnEquivalentUptoRow : OpenClaim := { program := "ytdkbcjdimhgmnaagreat", sum := "fd37674d8535dfaf46602e77bc9f0340c0bc30a2cf382041de157008ccc3f5bd", func := "loop.example/g00920/laws.FnEquivalent", spec := "fnEquivalent", unfollowed := true, recurses := true, apart := false, narrowed := true }
def FnEquivalentUptoSaid : Prop := fnEquivalentUptoRow.holds Tryz.pinned (OpenSpec.upto fnEquivalentSpec)

/-- 'laws.FnIsotopic', WHERE WHAT IT READS IS OF BULK AT MOST 1048576: true; the input reads as it did. -/
def fnIsotopicUptoRow : OpenClaim := { program := "ytdkbcjdimhgmnaagreat", sum := "fd37674d8535dfaf46602e77bc9f0340c0bc30a2cf382041de157008ccc3f5bd", func := "loop.example/g00920/laws.FnIsotopic", spec := "fnIsotopic", unfollowed := true, recurses := true, apart := false, narrowed := true }
def FnIsotopicUptoSaid : Prop := fnIsotopicUptoRow.holds Tryz.pinned (OpenSpec.upto fnIsotopicSpec)

/-- 'laws.FnIsomorphic', WHERE WHAT IT READS IS OF BULK AT MOST 1048576: true; the input reads as it did. -/
def fnIsomorphicUptoRow : OpenClaim := { program := "ytdkbcjdimhgmnaagreat", sum := "fd37674d8535dfaf46602e77bc9f0340c0bc30a2cf382041de157008ccc3f5bd", func := "loop.example/g00920/laws.FnIsomorphic", spec := "fnIsomorphic", unfollowed := true, recurses := true, apart := false, narrowed := true }
def FnIsomorphicUptoSaid : Prop := fnIsomorphicUptoRow.holds Tryz.pinned (OpenSpec.upto fnIsomorphicSpec)

end Rows
end Go.Proofs.YtdkbcjdimhgmnaaGreat
