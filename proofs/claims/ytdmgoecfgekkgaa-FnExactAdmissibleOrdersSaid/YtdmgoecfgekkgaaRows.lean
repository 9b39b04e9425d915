/-
  No cell of these rows narrows 'for every input' (looked for: loops, veiled, ifaces, maps, wideKeys, modest, calm, conditions, laid).
  DERIVED. THE GIVEN ROWS OF THIS SEAT. 4 by the template 'for every input the law returns true; each argument reads behind the call as it read before'; 0 by the template 'total and deterministic' (their statements: YtdmgoecfgekkgaaTotals.lean).
  GIVEN WITH THE SEED: the statements are not yours to turn. If you find one false, say at which input.
  Laid BY PROGRAM, IN A SANDBOX (cutbox-rows.mjs): the forced cells as the released guide's own fill.sh prints them over the translation 4ce7dbbe0faaa83b… (all of the seat's roots in one cut). By AI agents, Wed Nov 11 2026. No macro, syntax, notation, axiom, sorry.
-/
import Derived.Test.YtdmgoecfgekkgaaChecked
import GoSem.Claim
import GoSem.ClaimJoined
import GoSem.ClaimMapViews
import Derived.JoinedTies
import Derived.KernelRfl
namespace Go.Proofs.Ytdmgoecfgekkgaa
/- THE CELL 'sum', in the pinned program and in every row, IS THE sha256 OF THE DUMP (.gsa) THAT YtdmgoecfgekkgaaProg.lean LOADS. Nothing in Lean hashes anything: it is a label: what it is worth is what the hold of that sum in a sandbox is worth. -/
noncomputable def Try.pinned : Pinned := { name := "ytdmgoecfgekkgaa", sum := "4ce7dbbe0faaa83b37dd7e4657dd25ca36824d5d8bfee43cfb89ee86b0a50bb8", checked := Try.checked }
namespace Rows
def none {H : Type} : Left H := { results := [], args := [] }

/-- 'laws.FnExactIsPossible': WHATEVER THE INPUT: true; the input reads as it did. -/
def fnExactIsPossibleSpec : ChangeSpec := { name := "fnExactIsPossible", fn := fun _ => fun
  | [d1, d2, d3] => { results := [.lit (.bool true)], args := [d1, d2, d3] }
  | _ => none }
def fnExactIsPossibleRow : OpenClaim := { program := "ytdmgoecfgekkgaa", sum := "4ce7dbbe0faaa83b37dd7e4657dd25ca36824d5d8bfee43cfb89ee86b0a50bb8", func := "loop.example/g00920/laws.FnExactIsPossible", spec := "fnExactIsPossible", unfollowed := true, recurses := true, apart := false }
def FnExactIsPossibleSaid : Prop := fnExactIsPossibleRow.holds Try.pinned (OpenSpec.ofChange fnExactIsPossibleSpec)

/-- ITS FALSE NEIGHBOUR: 'it returns false'. Refute it at one input. -/
def fnExactIsPossibleWrong : ChangeSpec := { name := "fnExactIsPossible", fn := fun _ => fun
  | [d1, d2, d3] => { results := [.lit (.bool false)], args := [d1, d2, d3] }
  | _ => none }
def FnExactIsPossibleWrongFalsely : Prop := fnExactIsPossibleRow.holds Try.pinned (OpenSpec.ofChange fnExactIsPossibleWrong)

/-- 'laws.FnExactConditionsOf': WHATEVER THE INPUT: true; the input reads as it did. -/
def fnExactConditionsOfSpec : ChangeSpec := { name := "fnExactConditionsOf", fn := fun _ => fun
  | [d1, d2, d3] => { results := [.lit (.bool true)], args := [d1, d2, d3] }
  | _ => none }
def fnExactConditionsOfRow : OpenClaim := { program := "ytdmgoecfgekkgaa", sum := "4ce7dbbe0faaa83b37dd7e4657dd25ca36824d5d8bfee43cfb89ee86b0a50bb8", func := "loop.example/g00920/laws.FnExactConditionsOf", spec := "fnExactConditionsOf", unfollowed := true, recurses := true, apart := false }
def FnExactConditionsOfSaid : Prop := fnExactConditionsOfRow.holds Try.pinned (OpenSpec.ofChange fnExactConditionsOfSpec)

/-- ITS FALSE NEIGHBOUR: 'it returns false'. Refute it at one input. -/
def fnExactConditionsOfWrong : ChangeSpec := { name := "fnExactConditionsOf", fn := fun _ => fun
  | [d1, d2, d3] => { results := [.lit (.bool false)], args := [d1, d2, d3] }
  | _ => none }
def FnExactConditionsOfWrongFalsely : Prop := fnExactConditionsOfRow.holds Try.pinned (OpenSpec.ofChange fnExactConditionsOfWrong)

/-- 'laws.FnExactAdmissibleOrders': WHATEVER THE INPUT: true; the input reads as it did. -/
def fnExactAdmissibleOrdersSpec : ChangeSpec := { name := "fnExactAdmissibleOrders", fn := fun _ => fun
  | [d1, d2, d3] => { results := [.lit (.bool true)], args := [d1, d2, d3] }
  | _ => none }
def fnExactAdmissibleOrdersRow : OpenClaim := { program := "ytdmgoecfgekkgaa", sum := "4ce7dbbe0faaa83b37dd7e4657dd25ca36824d5d8bfee43cfb89ee86b0a50bb8", func := "loop.example/g00920/laws.FnExactAdmissibleOrders", spec := "fnExactAdmissibleOrders", unfollowed := true, recurses := true, apart := false }
def FnExactAdmissibleOrdersSaid : Prop := fnExactAdmissibleOrdersRow.holds Try.pinned (OpenSpec.ofChange fnExactAdmissibleOrdersSpec)

/-- ITS FALSE NEIGHBOUR: 'it returns false'. Refute it at one input. -/
def fnExactAdmissibleOrdersWrong : ChangeSpec := { name := "fnExactAdmissibleOrders", fn := fun _ => fun
  | [d1, d2, d3] => { results := [.lit (.bool false)], args := [d1, d2, d3] }
  | _ => none }
def FnExactAdmissibleOrdersWrongFalsely : Prop := fnExactAdmissibleOrdersRow.holds Try.pinned (OpenSpec.ofChange fnExactAdmissibleOrdersWrong)

/-- 'laws.FnAdmissible': WHATEVER THE INPUT: true; the input reads as it did. -/
def fnAdmissibleSpec : ChangeSpec := { name := "fnAdmissible", fn := fun _ => fun
  | [d1, d2] => { results := [.lit (.bool true)], args := [d1, d2] }
  | _ => none }
def fnAdmissibleRow : OpenClaim := { program := "ytdmgoecfgekkgaa", sum := "4ce7dbbe0faaa83b37dd7e4657dd25ca36824d5d8bfee43cfb89ee86b0a50bb8", func := "loop.example/g00920/laws.FnAdmissible", spec := "fnAdmissible", unfollowed := true, recurses := true, apart := false }
def FnAdmissibleSaid : Prop := fnAdmissibleRow.holds Try.pinned (OpenSpec.ofChange fnAdmissibleSpec)

/-- ITS FALSE NEIGHBOUR: 'it returns false'. Refute it at one input. -/
def fnAdmissibleWrong : ChangeSpec := { name := "fnAdmissible", fn := fun _ => fun
  | [d1, d2] => { results := [.lit (.bool false)], args := [d1, d2] }
  | _ => none }
def FnAdmissibleWrongFalsely : Prop := fnAdmissibleRow.holds Try.pinned (OpenSpec.ofChange fnAdmissibleWrong)

/- THE SECOND FORM. 'bulk': how many values and letters a reading holds, each counted each time it is reached (what is shared counts as often as it is met; a slice's spare places count too). A statement '..UptoSaid' is the law's where the arguments, and the package variables that the reading takes, are together of bulk at most 1048576: NARROWER than '..Said'. Prove '..Said' where nothing that the law and all that it calls make is longer than what came in: it says more and counts as full. Else prove '..UptoSaid'. A law counts once. -/
mutual
def uptoBulk {H : Type} : DataW H → Nat
  | .lit (.string bytes) => bytes.length + 1
  | .lit _ => 1
  | .nil => 1
  | .ptr d => uptoBulk d + 1
  | .slice elems spare => uptoBulkAll elems + uptoBulkAll spare + 1
  | .agg parts => uptoBulkAll parts + 1
  | .iface _ d => uptoBulk d + 1
  | .map entries => uptoBulkEntries entries + 1
  | .held _ => 1
def uptoBulkAll {H : Type} : List (DataW H) → Nat
  | [] => 0
  | d :: r => uptoBulk d + uptoBulkAll r
def uptoBulkEntries {H : Type} : List (Lit × DataW H) → Nat
  | [] => 0
  | x :: r => uptoBulkEntry x + uptoBulkEntries r
def uptoBulkEntry {H : Type} : Lit × DataW H → Nat
  | (.string bytes, d) => bytes.length + uptoBulk d + 1
  | (_, d) => uptoBulk d + 1
 end
def uptoSmall : (H : Type) → List (DataW H) → Bool := fun _ ds => decide (uptoBulkAll ds ≤ 1048576)
def OpenSpec.upto (s : _root_.Go.ChangeSpec) : _root_.Go.OpenSpec := { _root_.Go.OpenSpec.ofChange s with cond := some uptoSmall }

/-- 'laws.FnExactIsPossible', WHERE WHAT IT READS IS OF BULK AT MOST 1048576: true; the input reads as it did. -/
def fnExactIsPossibleUptoRow : OpenClaim := { program := "ytdmgoecfgekkgaa", sum := "4ce7dbbe0faaa83b37dd7e4657dd25ca36824d5d8bfee43cfb89ee86b0a50bb8", func := "loop.example/g00920/laws.FnExactIsPossible", spec := "fnExactIsPossible", unfollowed := true, recurses := true, apart := false, narrowed := true }
def FnExactIsPossibleUptoSaid : Prop := fnExactIsPossibleUptoRow.holds Try.pinned (OpenSpec.upto fnExactIsPossibleSpec)

/-- 'laws.FnExactConditionsOf', WHERE WHAT IT READS IS OF BULK AT MOST 1048576: true; the input reads as it did. -/
def fnExactConditionsOfUptoRow : OpenClaim := { program := "ytdmgoecfgekkgaa", sum := "4ce7dbbe0faaa83b37dd7e4657dd25ca36824d5d8bfee43cfb89ee86b0a50bb8", func := "loop.example/g00920/laws.FnExactConditionsOf", spec := "fnExactConditionsOf", unfollowed := true, recurses := true, apart := false, narrowed := true }
def FnExactConditionsOfUptoSaid : Prop := fnExactConditionsOfUptoRow.holds Try.pinned (OpenSpec.upto fnExactConditionsOfSpec)

/-- 'laws.FnExactAdmissibleOrders', WHERE WHAT IT READS IS OF BULK AT MOST 1048576: true; the input reads as it did. -/
def fnExactAdmissibleOrdersUptoRow : OpenClaim := { program := "ytdmgoecfgekkgaa", sum := "4ce7dbbe0faaa83b37dd7e4657dd25ca36824d5d8bfee43cfb89ee86b0a50bb8", func := "loop.example/g00920/laws.FnExactAdmissibleOrders", spec := "fnExactAdmissibleOrders", unfollowed := true, recurses := true, apart := false, narrowed := true }
def FnExactAdmissibleOrdersUptoSaid : Prop := fnExactAdmissibleOrdersUptoRow.holds Try.pinned (OpenSpec.upto fnExactAdmissibleOrdersSpec)

/-- 'laws.FnAdmissible', WHERE WHAT IT READS IS OF BULK AT MOST 1048576: true; the input reads as it did. -/
def fnAdmissibleUptoRow : OpenClaim := { program := "ytdmgoecfgekkgaa", sum := "4ce7dbbe0faaa83b37dd7e4657dd25ca36824d5d8bfee43cfb89ee86b0a50bb8", func := "loop.example/g00920/laws.FnAdmissible", spec := "fnAdmissible", unfollowed := true, recurses := true, apart := false, narrowed := true }
def FnAdmissibleUptoSaid : Prop := fnAdmissibleUptoRow.holds Try.pinned (OpenSpec.upto fnAdmissibleSpec)

end Rows
end Go.Proofs.Ytdmgoecfgekkgaa
