/-
  No cell of these rows narrows 'for every input' (looked for: loops, veiled, ifaces, maps, wideKeys, modest, calm, conditions, laid).
  DERIVED. THE GIVEN ROWS OF THIS SEAT. 4 by the template 'for every input the law returns true; each argument reads behind the call as it read before'; 0 by the template 'total and deterministic' (their statements: YtcnjlkabdfcjdaaTotals.lean).
  GIVEN WITH THE SEED: the statements are not yours to turn. If you find one false, say at which input.
  Laid BY PROGRAM, IN A SANDBOX (cutbox-rows.mjs): the forced cells as the released guide's own fill.sh prints them over the translation c6658a58aae5d6e4… (all of the seat's roots in one cut). By AI agents, Wed Nov 11 2026. No macro, syntax, notation, axiom, sorry.
-/
import Derived.Test.YtcnjlkabdfcjdaaChecked
import GoSem.Claim
import GoSem.ClaimJoined
import GoSem.ClaimMapViews
import Derived.JoinedTies
import Derived.KernelRfl
namespace Go.Proofs.Ytcnjlkabdfcjdaa
/- THE CELL 'sum', in the pinned program and in every row, IS THE sha256 OF THE DUMP (.gsa) THAT YtcnjlkabdfcjdaaProg.lean LOADS. Nothing in Lean hashes anything: it is a label: what it is worth is what the hold of that sum in a sandbox is worth. -/
noncomputable def Try.pinned : Pinned := { name := "ytcnjlkabdfcjdaa", sum := "c6658a58aae5d6e4f42891c192ab0af300c07adf9198dcbe3a74ebdea10e96e0", checked := Try.checked }
namespace Rows
def none {H : Type} : Left H := { results := [], args := [] }

/-- 'laws.FnTransversals': WHATEVER THE INPUT: true; the input reads as it did. -/
def fnTransversalsSpec : ChangeSpec := { name := "fnTransversals", fn := fun _ => fun
  | [d1, d2] => { results := [.lit (.bool true)], args := [d1, d2] }
  | _ => none }
def fnTransversalsRow : OpenClaim := { program := "ytcnjlkabdfcjdaa", sum := "c6658a58aae5d6e4f42891c192ab0af300c07adf9198dcbe3a74ebdea10e96e0", func := "loop.example/g00920/laws.FnTransversals", spec := "fnTransversals", unfollowed := true, recurses := true, apart := false }
def FnTransversalsSaid : Prop := fnTransversalsRow.holds Try.pinned (OpenSpec.ofChange fnTransversalsSpec)

/-- ITS FALSE NEIGHBOUR: 'it returns false'. Refute it at one input. -/
def fnTransversalsWrong : ChangeSpec := { name := "fnTransversals", fn := fun _ => fun
  | [d1, d2] => { results := [.lit (.bool false)], args := [d1, d2] }
  | _ => none }
def FnTransversalsWrongFalsely : Prop := fnTransversalsRow.holds Try.pinned (OpenSpec.ofChange fnTransversalsWrong)

/-- 'laws.FnCompletion': WHATEVER THE INPUT: true; the input reads as it did. -/
def fnCompletionSpec : ChangeSpec := { name := "fnCompletion", fn := fun _ => fun
  | [d1, d2] => { results := [.lit (.bool true)], args := [d1, d2] }
  | _ => none }
def fnCompletionRow : OpenClaim := { program := "ytcnjlkabdfcjdaa", sum := "c6658a58aae5d6e4f42891c192ab0af300c07adf9198dcbe3a74ebdea10e96e0", func := "loop.example/g00920/laws.FnCompletion", spec := "fnCompletion", unfollowed := true, recurses := true, apart := false }
def FnCompletionSaid : Prop := fnCompletionRow.holds Try.pinned (OpenSpec.ofChange fnCompletionSpec)

/-- ITS FALSE NEIGHBOUR: 'it returns false'. Refute it at one input. -/
def fnCompletionWrong : ChangeSpec := { name := "fnCompletion", fn := fun _ => fun
  | [d1, d2] => { results := [.lit (.bool false)], args := [d1, d2] }
  | _ => none }
def FnCompletionWrongFalsely : Prop := fnCompletionRow.holds Try.pinned (OpenSpec.ofChange fnCompletionWrong)

/-- 'laws.FnMates': WHATEVER THE INPUT: true; the input reads as it did. -/
def fnMatesSpec : ChangeSpec := { name := "fnMates", fn := fun _ => fun
  | [d] => { results := [.lit (.bool true)], args := [d] }
  | _ => none }
def fnMatesRow : OpenClaim := { program := "ytcnjlkabdfcjdaa", sum := "c6658a58aae5d6e4f42891c192ab0af300c07adf9198dcbe3a74ebdea10e96e0", func := "loop.example/g00920/laws.FnMates", spec := "fnMates", unfollowed := true, recurses := true, apart := false }
def FnMatesSaid : Prop := fnMatesRow.holds Try.pinned (OpenSpec.ofChange fnMatesSpec)

/-- ITS FALSE NEIGHBOUR: 'it returns false'. Refute it at one input. -/
def fnMatesWrong : ChangeSpec := { name := "fnMates", fn := fun _ => fun
  | [d] => { results := [.lit (.bool false)], args := [d] }
  | _ => none }
def FnMatesWrongFalsely : Prop := fnMatesRow.holds Try.pinned (OpenSpec.ofChange fnMatesWrong)

/-- 'laws.FnRectangles': WHATEVER THE INPUT: true; the input reads as it did. -/
def fnRectanglesSpec : ChangeSpec := { name := "fnRectangles", fn := fun _ => fun
  | [d] => { results := [.lit (.bool true)], args := [d] }
  | _ => none }
def fnRectanglesRow : OpenClaim := { program := "ytcnjlkabdfcjdaa", sum := "c6658a58aae5d6e4f42891c192ab0af300c07adf9198dcbe3a74ebdea10e96e0", func := "loop.example/g00920/laws.FnRectangles", spec := "fnRectangles", unfollowed := true, recurses := true, apart := false }
def FnRectanglesSaid : Prop := fnRectanglesRow.holds Try.pinned (OpenSpec.ofChange fnRectanglesSpec)

/-- ITS FALSE NEIGHBOUR: 'it returns false'. Refute it at one input. -/
def fnRectanglesWrong : ChangeSpec := { name := "fnRectangles", fn := fun _ => fun
  | [d] => { results := [.lit (.bool false)], args := [d] }
  | _ => none }
def FnRectanglesWrongFalsely : Prop := fnRectanglesRow.holds Try.pinned (OpenSpec.ofChange fnRectanglesWrong)

/- THE SECOND FORM. 'bulk': how many values and letters a reading holds, each counted each time it is reached (what is shared counts as often as it is met; a slice's spare places count too). A statement '..UptoSaid' is the law's where the arguments, and the package variables that the reading takes, are together of bulk at most 1048576: NARROWER than '..Said'. Prove '..Said' where nothing that the law and all that it calls make is longer than what came in: it says more and counts as full. Else prove '..UptoSaid'. A law counts once. -/
mutual
def uptoBulk {H : Type} : DataW H → Nat
  | .lit (.string bytes) => bytes.length + 1
  | .lit _ => 1
  | .nil => 1
  | .ptr d => uptoBulk d + 1
  | .slice elems spare => uptoBulkAll elems + uptoBulkAll spare + 1
  | .agg parts => uptoBulkAll parts + 1
  | .iface _ d => uptoBulk d + 1
  | .map entries => uptoBulkEntries entries + 1
  | .held _ => 1
def uptoBulkAll {H : Type} : List (DataW H) → Nat
  | [] => 0
  | d :: r => uptoBulk d + uptoBulkAll r
def uptoBulkEntries {H : Type} : List (Lit × DataW H) → Nat
  | [] => 0
  | x :: r => uptoBulkEntry x + uptoBulkEntries r
def uptoBulkEntry {H : Type} : Lit × DataW H → Nat
  | (.string bytes, d) => bytes.length + uptoBulk d + 1
  | (_, d) => uptoBulk d + 1
 end
def uptoSmall : (H : Type) → List (DataW H) → Bool := fun _ ds => decide (uptoBulkAll ds ≤ 1048576)
def OpenSpec.upto (s : _root_.Go.ChangeSpec) : _root_.Go.OpenSpec := { _root_.Go.OpenSpec.ofChange s with cond := some uptoSmall }

/-- 'laws.FnTransversals', WHERE WHAT IT READS IS OF BULK AT MOST 1048576: true; the input reads as it did. -/
def fnTransversalsUptoRow : OpenClaim := { program := "ytcnjlkabdfcjdaa", sum := "c6658a58aae5d6e4f42891c192ab0af300c07adf9198dcbe3a74ebdea10e96e0", func := "loop.example/g00920/laws.FnTransversals", spec := "fnTransversals", unfollowed := true, recurses := true, apart := false, narrowed := true }
def FnTransversalsUptoSaid : Prop := fnTransversalsUptoRow.holds Try.pinned (OpenSpec.upto fnTransversalsSpec)

/-- 'laws.FnCompletion', WHERE WHAT IT READS IS OF BULK AT MOST 1048576: true; the input reads as it did. -/
def fnCompletionUptoRow : OpenClaim := { program := "ytcnjlkabdfcjdaa", sum := "c6658a58aae5d6e4f42891c192ab0af300c07adf9198dcbe3a74ebdea10e96e0", func := "loop.example/g00920/laws.FnCompletion", spec := "fnCompletion", unfollowed := true, recurses := true, apart := false, narrowed := true }
def FnCompletionUptoSaid : Prop := fnCompletionUptoRow.holds Try.pinned (OpenSpec.upto fnCompletionSpec)

/-- 'laws.FnMates', WHERE WHAT IT READS IS OF BULK AT MOST 1048576: true; the input reads as it did. -/
def fnMatesUptoRow : OpenClaim := { program := "ytcnjlkabdfcjdaa", sum := "c6658a58aae5d6e4f42891c192ab0af300c07adf9198dcbe3a74ebdea10e96e0", func := "loop.example/g00920/laws.FnMates", spec := "fnMates", unfollowed := true, recurses := true, apart := false, narrowed := true }
def FnMatesUptoSaid : Prop := fnMatesUptoRow.holds Try.pinned (OpenSpec.upto fnMatesSpec)

/-- 'laws.FnRectangles', WHERE WHAT IT READS IS OF BULK AT MOST 1048576: true; the input reads as it did. -/
def fnRectanglesUptoRow : OpenClaim := { program := "ytcnjlkabdfcjdaa", sum := "c6658a58aae5d6e4f42891c192ab0af300c07adf9198dcbe3a74ebdea10e96e0", func := "loop.example/g00920/laws.FnRectangles", spec := "fnRectangles", unfollowed := true, recurses := true, apart := false, narrowed := true }
def FnRectanglesUptoSaid : Prop := fnRectanglesUptoRow.holds Try.pinned (OpenSpec.upto fnRectanglesSpec)

end Rows
end Go.Proofs.Ytcnjlkabdfcjdaa
