/-
  No cell of these rows narrows 'for every input' (looked for: loops, veiled, ifaces, maps, wideKeys, modest, calm, conditions, laid).
  DERIVED. THE GIVEN ROWS OF THIS SEAT. 7 by the template 'for every input the law returns true; each argument reads behind the call as it read before'; 0 by the template 'total and deterministic' (their statements: YtjgihhnplckjoaaGreatTotals.lean).
  GIVEN WITH THE SEED: the statements are not yours to turn. If you find one false, say at which input.
  Laid BY PROGRAM, IN A SANDBOX (cutbox-rows.mjs): the forced cells as the released guide's own fill.sh prints them over the translation 9735844867c0ef67… (all of the seat's roots in one cut). By AI agents, Wed Nov 11 2026. No macro, syntax, notation, axiom, sorry.
-/
import Derived.Test.YtjgihhnplckjoaaGreatChecked
import GoSem.Claim
import GoSem.ClaimJoined
import GoSem.ClaimMapViews
import Derived.JoinedTies
import Derived.KernelRfl
namespace Go.Proofs.YtjgihhnplckjoaaGreat
/- THE CELL 'sum', in the pinned program and in every row, IS THE sha256 OF THE DUMP (.gsa) THAT YtjgihhnplckjoaaGreatProg.lean LOADS. Nothing in Lean hashes anything: it is a label: what it is worth is what the hold of that sum in a sandbox is worth. -/
noncomputable def Tryz.pinned : Pinned := { name := "ytjgihhnplckjoaagreat", sum := "9735844867c0ef67e8d2e32f7da5ad4b963e3d4ab9e5c5da47d8b3576f72a7f5", checked := Tryz.checked }
namespace Rows
def none {H : Type} : Left H := { results := [], args := [] }

/-- 'laws.FnExactCountAutomorphisms': WHATEVER THE INPUT: true; the input reads as it did. -/
def fnExactCountAutomorphismsSpec : ChangeSpec := { name := "fnExactCountAutomorphisms", fn := fun _ => fun
  | [d1, d2] => { results := [.lit (.bool true)], args := [d1, d2] }
  | _ => none }
def fnExactCountAutomorphismsRow : OpenClaim := { program := "ytjgihhnplckjoaagreat", sum := "9735844867c0ef67e8d2e32f7da5ad4b963e3d4ab9e5c5da47d8b3576f72a7f5", func := "loop.example/g00920/laws.FnExactCountAutomorphisms", spec := "fnExactCountAutomorphisms", unfollowed := true, recurses := true, apart := false }
def FnExactCountAutomorphismsSaid : Prop := fnExactCountAutomorphismsRow.holds Tryz.pinned (OpenSpec.ofChange fnExactCountAutomorphismsSpec)

/-- ITS FALSE NEIGHBOUR: 'it returns false'. Refute it at one input. -/
def fnExactCountAutomorphismsWrong : ChangeSpec := { name := "fnExactCountAutomorphisms", fn := fun _ => fun
  | [d1, d2] => { results := [.lit (.bool false)], args := [d1, d2] }
  | _ => none }
def FnExactCountAutomorphismsWrongFalsely : Prop := fnExactCountAutomorphismsRow.holds Tryz.pinned (OpenSpec.ofChange fnExactCountAutomorphismsWrong)

/-- 'laws.FnExactSearchSize': WHATEVER THE INPUT: true; the input reads as it did. -/
def fnExactSearchSizeSpec : ChangeSpec := { name := "fnExactSearchSize", fn := fun _ => fun
  | [d1, d2] => { results := [.lit (.bool true)], args := [d1, d2] }
  | _ => none }
def fnExactSearchSizeRow : OpenClaim := { program := "ytjgihhnplckjoaagreat", sum := "9735844867c0ef67e8d2e32f7da5ad4b963e3d4ab9e5c5da47d8b3576f72a7f5", func := "loop.example/g00920/laws.FnExactSearchSize", spec := "fnExactSearchSize", unfollowed := true, recurses := true, apart := false }
def FnExactSearchSizeSaid : Prop := fnExactSearchSizeRow.holds Tryz.pinned (OpenSpec.ofChange fnExactSearchSizeSpec)

/-- ITS FALSE NEIGHBOUR: 'it returns false'. Refute it at one input. -/
def fnExactSearchSizeWrong : ChangeSpec := { name := "fnExactSearchSize", fn := fun _ => fun
  | [d1, d2] => { results := [.lit (.bool false)], args := [d1, d2] }
  | _ => none }
def FnExactSearchSizeWrongFalsely : Prop := fnExactSearchSizeRow.holds Tryz.pinned (OpenSpec.ofChange fnExactSearchSizeWrong)

/-- 'laws.FnExactIsomorphicGraphs': WHATEVER THE INPUT: true; the input reads as it did. -/
def fnExactIsomorphicGraphsSpec : ChangeSpec := { name := "fnExactIsomorphicGraphs", fn := fun _ => fun
  | [d1, d2, d3] => { results := [.lit (.bool true)], args := [d1, d2, d3] }
  | _ => none }
def fnExactIsomorphicGraphsRow : OpenClaim := { program := "ytjgihhnplckjoaagreat", sum := "9735844867c0ef67e8d2e32f7da5ad4b963e3d4ab9e5c5da47d8b3576f72a7f5", func := "loop.example/g00920/laws.FnExactIsomorphicGraphs", spec := "fnExactIsomorphicGraphs", unfollowed := true, recurses := true, apart := false }
def FnExactIsomorphicGraphsSaid : Prop := fnExactIsomorphicGraphsRow.holds Tryz.pinned (OpenSpec.ofChange fnExactIsomorphicGraphsSpec)

/-- ITS FALSE NEIGHBOUR: 'it returns false'. Refute it at one input. -/
def fnExactIsomorphicGraphsWrong : ChangeSpec := { name := "fnExactIsomorphicGraphs", fn := fun _ => fun
  | [d1, d2, d3] => { results := [.lit (.bool false)], args := [d1, d2, d3] }
  | _ => none }
def FnExactIsomorphicGraphsWrongFalsely : Prop := fnExactIsomorphicGraphsRow.holds Tryz.pinned (OpenSpec.ofChange fnExactIsomorphicGraphsWrong)

/-- 'laws.FnExactCanonicalGraph': WHATEVER THE INPUT: true; the input reads as it did. -/
def fnExactCanonicalGraphSpec : ChangeSpec := { name := "fnExactCanonicalGraph", fn := fun _ => fun
  | [d1, d2] => { results := [.lit (.bool true)], args := [d1, d2] }
  | _ => none }
def fnExactCanonicalGraphRow : OpenClaim := { program := "ytjgihhnplckjoaagreat", sum := "9735844867c0ef67e8d2e32f7da5ad4b963e3d4ab9e5c5da47d8b3576f72a7f5", func := "loop.example/g00920/laws.FnExactCanonicalGraph", spec := "fnExactCanonicalGraph", unfollowed := true, recurses := true, apart := false }
def FnExactCanonicalGraphSaid : Prop := fnExactCanonicalGraphRow.holds Tryz.pinned (OpenSpec.ofChange fnExactCanonicalGraphSpec)

/-- ITS FALSE NEIGHBOUR: 'it returns false'. Refute it at one input. -/
def fnExactCanonicalGraphWrong : ChangeSpec := { name := "fnExactCanonicalGraph", fn := fun _ => fun
  | [d1, d2] => { results := [.lit (.bool false)], args := [d1, d2] }
  | _ => none }
def FnExactCanonicalGraphWrongFalsely : Prop := fnExactCanonicalGraphRow.holds Tryz.pinned (OpenSpec.ofChange fnExactCanonicalGraphWrong)

/-- 'laws.FnExactAutomorphismsOf': WHATEVER THE INPUT: true; the input reads as it did. -/
def fnExactAutomorphismsOfSpec : ChangeSpec := { name := "fnExactAutomorphismsOf", fn := fun _ => fun
  | [d1, d2] => { results := [.lit (.bool true)], args := [d1, d2] }
  | _ => none }
def fnExactAutomorphismsOfRow : OpenClaim := { program := "ytjgihhnplckjoaagreat", sum := "9735844867c0ef67e8d2e32f7da5ad4b963e3d4ab9e5c5da47d8b3576f72a7f5", func := "loop.example/g00920/laws.FnExactAutomorphismsOf", spec := "fnExactAutomorphismsOf", unfollowed := true, recurses := true, apart := false }
def FnExactAutomorphismsOfSaid : Prop := fnExactAutomorphismsOfRow.holds Tryz.pinned (OpenSpec.ofChange fnExactAutomorphismsOfSpec)

/-- ITS FALSE NEIGHBOUR: 'it returns false'. Refute it at one input. -/
def fnExactAutomorphismsOfWrong : ChangeSpec := { name := "fnExactAutomorphismsOf", fn := fun _ => fun
  | [d1, d2] => { results := [.lit (.bool false)], args := [d1, d2] }
  | _ => none }
def FnExactAutomorphismsOfWrongFalsely : Prop := fnExactAutomorphismsOfRow.holds Tryz.pinned (OpenSpec.ofChange fnExactAutomorphismsOfWrong)

/-- 'laws.FnExactIsomorphismOf': WHATEVER THE INPUT: true; the input reads as it did. -/
def fnExactIsomorphismOfSpec : ChangeSpec := { name := "fnExactIsomorphismOf", fn := fun _ => fun
  | [d1, d2, d3] => { results := [.lit (.bool true)], args := [d1, d2, d3] }
  | _ => none }
def fnExactIsomorphismOfRow : OpenClaim := { program := "ytjgihhnplckjoaagreat", sum := "9735844867c0ef67e8d2e32f7da5ad4b963e3d4ab9e5c5da47d8b3576f72a7f5", func := "loop.example/g00920/laws.FnExactIsomorphismOf", spec := "fnExactIsomorphismOf", unfollowed := true, recurses := true, apart := false }
def FnExactIsomorphismOfSaid : Prop := fnExactIsomorphismOfRow.holds Tryz.pinned (OpenSpec.ofChange fnExactIsomorphismOfSpec)

/-- ITS FALSE NEIGHBOUR: 'it returns false'. Refute it at one input. -/
def fnExactIsomorphismOfWrong : ChangeSpec := { name := "fnExactIsomorphismOf", fn := fun _ => fun
  | [d1, d2, d3] => { results := [.lit (.bool false)], args := [d1, d2, d3] }
  | _ => none }
def FnExactIsomorphismOfWrongFalsely : Prop := fnExactIsomorphismOfRow.holds Tryz.pinned (OpenSpec.ofChange fnExactIsomorphismOfWrong)

/-- 'laws.FnExactVertexOrbits': WHATEVER THE INPUT: true; the input reads as it did. -/
def fnExactVertexOrbitsSpec : ChangeSpec := { name := "fnExactVertexOrbits", fn := fun _ => fun
  | [d1, d2] => { results := [.lit (.bool true)], args := [d1, d2] }
  | _ => none }
def fnExactVertexOrbitsRow : OpenClaim := { program := "ytjgihhnplckjoaagreat", sum := "9735844867c0ef67e8d2e32f7da5ad4b963e3d4ab9e5c5da47d8b3576f72a7f5", func := "loop.example/g00920/laws.FnExactVertexOrbits", spec := "fnExactVertexOrbits", unfollowed := true, recurses := true, apart := false }
def FnExactVertexOrbitsSaid : Prop := fnExactVertexOrbitsRow.holds Tryz.pinned (OpenSpec.ofChange fnExactVertexOrbitsSpec)

/-- ITS FALSE NEIGHBOUR: 'it returns false'. Refute it at one input. -/
def fnExactVertexOrbitsWrong : ChangeSpec := { name := "fnExactVertexOrbits", fn := fun _ => fun
  | [d1, d2] => { results := [.lit (.bool false)], args := [d1, d2] }
  | _ => none }
def FnExactVertexOrbitsWrongFalsely : Prop := fnExactVertexOrbitsRow.holds Tryz.pinned (OpenSpec.ofChange fnExactVertexOrbitsWrong)

/- THE SECOND FORM. 'bulk': how many values and letters a reading holds, each counted each time it is reached (what is shared counts as often as it is met; a slice's spare places count too). A statement '..UptoSaid' is the law's where the arguments, and the package variables that the reading takes, are together of bulk at most 1048576: NARROWER than '..Said'. Prove '..Said' where nothing that the law and all that it calls make is longer than what came in: it says more and counts as full. Else prove '..UptoSaid'. A law counts once. -/
mutual
def uptoBulk {H : Type} : DataW H → Nat
  | .lit (.string bytes) => bytes.length + 1
  | .lit _ => 1
  | .nil => 1
  | .ptr d => uptoBulk d + 1
  | .slice elems spare => uptoBulkAll elems + uptoBulkAll spare + 1
  | .agg parts => uptoBulkAll parts + 1
  | .iface _ d => uptoBulk d + 1
  | .map entries => uptoBulkEntries entries + 1
  | .held _ => 1
def uptoBulkAll {H : Type} : List (DataW H) → Nat
  | [] => 0
  | d :: r => uptoBulk d + uptoBulkAll r
def uptoBulkEntries {H : Type} : List (Lit × DataW H) → Nat
  | [] => 0
  | x :: r => uptoBulkEntry x + uptoBulkEntries r
def uptoBulkEntry {H : Type} : Lit × DataW H → Nat
  | (.string bytes, d) => bytes.length + uptoBulk d + 1
  | (_, d) => uptoBulk d + 1
 end
def uptoSmall : (H : Type) → List (DataW H) → Bool := fun _ ds => decide (uptoBulkAll ds ≤ 1048576)
def OpenSpec.upto (s : _root_.Go.ChangeSpec) : _root_.Go.OpenSpec := { _root_.Go.OpenSpec.ofChange s with cond := some uptoSmall }

/-- 'laws.FnExactCountAutomorphisms', WHERE WHAT IT READS IS OF BULK AT MOST 1048576: true; the input reads as it did. -/
def fnExactCountAutomorphismsUptoRow : OpenClaim := { program := "ytjgihhnplckjoaagreat", sum := "9735844867c0ef67e8d2e32f7da5ad4b963e3d4ab9e5c5da47d8b3576f72a7f5", func := "loop.example/g00920/laws.FnExactCountAutomorphisms", spec := "fnExactCountAutomorphisms", unfollowed := true, recurses := true, apart := false, narrowed := true }
def FnExactCountAutomorphismsUptoSaid : Prop := fnExactCountAutomorphismsUptoRow.holds Tryz.pinned (OpenSpec.upto fnExactCountAutomorphismsSpec)

/-- 'laws.FnExactSearchSize', WHERE WHAT IT READS IS OF BULK AT MOST 1048576: true; the input reads as it did. -/
def fnExactSearchSizeUptoRow : OpenClaim := { program := "ytjgihhnplckjoaagreat", sum := "9735844867c0ef67e8d2e32f7da5ad4b963e3d4ab9e5c5da47d8b3576f72a7f5", func := "loop.example/g00920/laws.FnExactSearchSize", spec := "fnExactSearchSize", unfollowed := true, recurses := true, apart := false, narrowed := true }
def FnExactSearchSizeUptoSaid : Prop := fnExactSearchSizeUptoRow.holds Tryz.pinned (OpenSpec.upto fnExactSearchSizeSpec)

/-- 'laws.FnExactIsomorphicGraphs', WHERE WHAT IT READS IS OF BULK AT MOST 1048576: true; the input reads as it did. -/
def fnExactIsomorphicGraphsUptoRow : OpenClaim := { program := "ytjgihhnplckjoaagreat", sum := "9735844867c0ef67e8d2e32f7da5ad4b963e3d4ab9e5c5da47d8b3576f72a7f5", func := "loop.example/g00920/laws.FnExactIsomorphicGraphs", spec := "fnExactIsomorphicGraphs", unfollowed := true, recurses := true, apart := false, narrowed := true }
def FnExactIsomorphicGraphsUptoSaid : Prop := fnExactIsomorphicGraphsUptoRow.holds Tryz.pinned (OpenSpec.upto fnExactIsomorphicGraphsSpec)

/-- 'laws.FnExactCanonicalGraph', WHERE WHAT IT READS IS OF BULK AT MOST 1048576: true; the input reads as it did. -/
def fnExactCanonicalGraphUptoRow : OpenClaim := { program := "ytjgihhnplckjoaagreat", sum := "9735844867c0ef67e8d2e32f7da5ad4b963e3d4ab9e5c5da47d8b3576f72a7f5", func := "loop.example/g00920/laws.FnExactCanonicalGraph", spec := "fnExactCanonicalGraph", unfollowed := true, recurses := true, apart := false, narrowed := true }
def FnExactCanonicalGraphUptoSaid : Prop := fnExactCanonicalGraphUptoRow.holds Tryz.pinned (OpenSpec.upto fnExactCanonicalGraphSpec)

/-- 'laws.FnExactAutomorphismsOf', WHERE WHAT IT READS IS OF BULK AT MOST 1048576: true; the input reads as it did. -/
def fnExactAutomorphismsOfUptoRow : OpenClaim := { program := "ytjgihhnplckjoaagreat", sum := "9735844867c0ef67e8d2e32f7da5ad4b963e3d4ab9e5c5da47d8b3576f72a7f5", func := "loop.example/g00920/laws.FnExactAutomorphismsOf", spec := "fnExactAutomorphismsOf", unfollowed := true, recurses := true, apart := false, narrowed := true }
def FnExactAutomorphismsOfUptoSaid : Prop := fnExactAutomorphismsOfUptoRow.holds Tryz.pinned (OpenSpec.upto fnExactAutomorphismsOfSpec)

/-- 'laws.FnExactIsomorphismOf', WHERE WHAT IT READS IS OF BULK AT MOST 1048576: true; the input reads as it did. -/
def fnExactIsomorphismOfUptoRow : OpenClaim := { program := "ytjgihhnplckjoaagreat", sum := "9735844867c0ef67e8d2e32f7da5ad4b963e3d4ab9e5c5da47d8b3576f72a7f5", func := "loop.example/g00920/laws.FnExactIsomorphismOf", spec := "fnExactIsomorphismOf", unfollowed := true, recurses := true, apart := false, narrowed := true }
def FnExactIsomorphismOfUptoSaid : Prop := fnExactIsomorphismOfUptoRow.holds Tryz.pinned (OpenSpec.upto fnExactIsomorphismOfSpec)

/-- 'laws.FnExactVertexOrbits', WHERE WHAT IT READS IS OF BULK AT MOST 1048576: true; the input reads as it did. -/
def fnExactVertexOrbitsUptoRow : OpenClaim := { program := "ytjgihhnplckjoaagreat", sum := "9735844867c0ef67e8d2e32f7da5ad4b963e3d4ab9e5c5da47d8b3576f72a7f5", func := "loop.example/g00920/laws.FnExactVertexOrbits", spec := "fnExactVertexOrbits", unfollowed := true, recurses := true, apart := false, narrowed := true }
def FnExactVertexOrbitsUptoSaid : Prop := fnExactVertexOrbitsUptoRow.holds Tryz.pinned (OpenSpec.upto fnExactVertexOrbitsSpec)

end Rows
end Go.Proofs.YtjgihhnplckjoaaGreat
