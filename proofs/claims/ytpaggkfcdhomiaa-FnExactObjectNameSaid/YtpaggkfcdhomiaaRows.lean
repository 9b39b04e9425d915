/-
  No cell of these rows narrows 'for every input' (looked for: loops, veiled, ifaces, maps, wideKeys, modest, calm, conditions, laid).
  DERIVED. THE GIVEN ROWS OF THIS SEAT. 5 by the template 'for every input the law returns true; each argument reads behind the call as it read before'; 0 by the template 'total and deterministic' (their statements: YtpaggkfcdhomiaaTotals.lean).
  GIVEN WITH THE SEED: the statements are not yours to turn. If you find one false, say at which input.
  Laid BY PROGRAM, IN A SANDBOX (cutbox-rows.mjs): the forced cells as the released guide's own fill.sh prints them over the translation ff53e40f5d8570e2… (all of the seat's roots in one cut). By AI agents, Wed Nov 11 2026. No macro, syntax, notation, axiom, sorry.
-/
import Derived.Test.YtpaggkfcdhomiaaChecked
import GoSem.Claim
import GoSem.ClaimJoined
import GoSem.ClaimMapViews
import Derived.JoinedTies
import Derived.KernelRfl
namespace Go.Proofs.Ytpaggkfcdhomiaa
/- THE CELL 'sum', in the pinned program and in every row, IS THE sha256 OF THE DUMP (.gsa) THAT YtpaggkfcdhomiaaProg.lean LOADS. Nothing in Lean hashes anything: it is a label: what it is worth is what the hold of that sum in a sandbox is worth. -/
noncomputable def Try.pinned : Pinned := { name := "ytpaggkfcdhomiaa", sum := "ff53e40f5d8570e2030209c02ea5465826f0219a7facd175c39a8bec806393ce", checked := Try.checked }
namespace Rows
def none {H : Type} : Left H := { results := [], args := [] }

/-- 'laws.FnExactConditionName': WHATEVER THE INPUT: true; the input reads as it did. -/
def fnExactConditionNameSpec : ChangeSpec := { name := "fnExactConditionName", fn := fun _ => fun
  | [d] => { results := [.lit (.bool true)], args := [d] }
  | _ => none }
def fnExactConditionNameRow : OpenClaim := { program := "ytpaggkfcdhomiaa", sum := "ff53e40f5d8570e2030209c02ea5465826f0219a7facd175c39a8bec806393ce", func := "loop.example/g00920/laws.FnExactConditionName", spec := "fnExactConditionName", apart := false }
def FnExactConditionNameSaid : Prop := fnExactConditionNameRow.holds Try.pinned (OpenSpec.ofChange fnExactConditionNameSpec)

/-- ITS FALSE NEIGHBOUR: 'it returns false'. Refute it at one input. -/
def fnExactConditionNameWrong : ChangeSpec := { name := "fnExactConditionName", fn := fun _ => fun
  | [d] => { results := [.lit (.bool false)], args := [d] }
  | _ => none }
def FnExactConditionNameWrongFalsely : Prop := fnExactConditionNameRow.holds Try.pinned (OpenSpec.ofChange fnExactConditionNameWrong)

/-- 'laws.FnExactConstructionName': WHATEVER THE INPUT: true; the input reads as it did. -/
def fnExactConstructionNameSpec : ChangeSpec := { name := "fnExactConstructionName", fn := fun _ => fun
  | [d] => { results := [.lit (.bool true)], args := [d] }
  | _ => none }
def fnExactConstructionNameRow : OpenClaim := { program := "ytpaggkfcdhomiaa", sum := "ff53e40f5d8570e2030209c02ea5465826f0219a7facd175c39a8bec806393ce", func := "loop.example/g00920/laws.FnExactConstructionName", spec := "fnExactConstructionName", apart := false }
def FnExactConstructionNameSaid : Prop := fnExactConstructionNameRow.holds Try.pinned (OpenSpec.ofChange fnExactConstructionNameSpec)

/-- ITS FALSE NEIGHBOUR: 'it returns false'. Refute it at one input. -/
def fnExactConstructionNameWrong : ChangeSpec := { name := "fnExactConstructionName", fn := fun _ => fun
  | [d] => { results := [.lit (.bool false)], args := [d] }
  | _ => none }
def FnExactConstructionNameWrongFalsely : Prop := fnExactConstructionNameRow.holds Try.pinned (OpenSpec.ofChange fnExactConstructionNameWrong)

/-- 'laws.FnExactObjectName': WHATEVER THE INPUT: true; the input reads as it did. -/
def fnExactObjectNameSpec : ChangeSpec := { name := "fnExactObjectName", fn := fun _ => fun
  | [d] => { results := [.lit (.bool true)], args := [d] }
  | _ => none }
def fnExactObjectNameRow : OpenClaim := { program := "ytpaggkfcdhomiaa", sum := "ff53e40f5d8570e2030209c02ea5465826f0219a7facd175c39a8bec806393ce", func := "loop.example/g00920/laws.FnExactObjectName", spec := "fnExactObjectName", apart := false }
def FnExactObjectNameSaid : Prop := fnExactObjectNameRow.holds Try.pinned (OpenSpec.ofChange fnExactObjectNameSpec)

/-- ITS FALSE NEIGHBOUR: 'it returns false'. Refute it at one input. -/
def fnExactObjectNameWrong : ChangeSpec := { name := "fnExactObjectName", fn := fun _ => fun
  | [d] => { results := [.lit (.bool false)], args := [d] }
  | _ => none }
def FnExactObjectNameWrongFalsely : Prop := fnExactObjectNameRow.holds Try.pinned (OpenSpec.ofChange fnExactObjectNameWrong)

/-- 'laws.FnExactObjectNamed': WHATEVER THE INPUT: true; the input reads as it did. -/
def fnExactObjectNamedSpec : ChangeSpec := { name := "fnExactObjectNamed", fn := fun _ => fun
  | [d] => { results := [.lit (.bool true)], args := [d] }
  | _ => none }
def fnExactObjectNamedRow : OpenClaim := { program := "ytpaggkfcdhomiaa", sum := "ff53e40f5d8570e2030209c02ea5465826f0219a7facd175c39a8bec806393ce", func := "loop.example/g00920/laws.FnExactObjectNamed", spec := "fnExactObjectNamed", apart := false }
def FnExactObjectNamedSaid : Prop := fnExactObjectNamedRow.holds Try.pinned (OpenSpec.ofChange fnExactObjectNamedSpec)

/-- ITS FALSE NEIGHBOUR: 'it returns false'. Refute it at one input. -/
def fnExactObjectNamedWrong : ChangeSpec := { name := "fnExactObjectNamed", fn := fun _ => fun
  | [d] => { results := [.lit (.bool false)], args := [d] }
  | _ => none }
def FnExactObjectNamedWrongFalsely : Prop := fnExactObjectNamedRow.holds Try.pinned (OpenSpec.ofChange fnExactObjectNamedWrong)

/-- 'laws.FnExactBlockNumbers': WHATEVER THE INPUT: true; the input reads as it did. -/
def fnExactBlockNumbersSpec : ChangeSpec := { name := "fnExactBlockNumbers", fn := fun _ => fun
  | [d1, d2, d3] => { results := [.lit (.bool true)], args := [d1, d2, d3] }
  | _ => none }
def fnExactBlockNumbersRow : OpenClaim := { program := "ytpaggkfcdhomiaa", sum := "ff53e40f5d8570e2030209c02ea5465826f0219a7facd175c39a8bec806393ce", func := "loop.example/g00920/laws.FnExactBlockNumbers", spec := "fnExactBlockNumbers", apart := false }
def FnExactBlockNumbersSaid : Prop := fnExactBlockNumbersRow.holds Try.pinned (OpenSpec.ofChange fnExactBlockNumbersSpec)

/-- ITS FALSE NEIGHBOUR: 'it returns false'. Refute it at one input. -/
def fnExactBlockNumbersWrong : ChangeSpec := { name := "fnExactBlockNumbers", fn := fun _ => fun
  | [d1, d2, d3] => { results := [.lit (.bool false)], args := [d1, d2, d3] }
  | _ => none }
def FnExactBlockNumbersWrongFalsely : Prop := fnExactBlockNumbersRow.holds Try.pinned (OpenSpec.ofChange fnExactBlockNumbersWrong)

/- THE SECOND FORM. 'bulk': how many values and letters a reading holds, each counted each time it is reached (what is shared counts as often as it is met; a slice's spare places count too). A statement '..UptoSaid' is the law's where the arguments, and the package variables that the reading takes, are together of bulk at most 1048576: NARROWER than '..Said'. Prove '..Said' where nothing that the law and all that it calls make is longer than what came in: it says more and counts as full. Else prove '..UptoSaid'. A law counts once. -/
mutual
def uptoBulk {H : Type} : DataW H → Nat
  | .lit (.string bytes) => bytes.length + 1
  | .lit _ => 1
  | .nil => 1
  | .ptr d => uptoBulk d + 1
  | .slice elems spare => uptoBulkAll elems + uptoBulkAll spare + 1
  | .agg parts => uptoBulkAll parts + 1
  | .iface _ d => uptoBulk d + 1
  | .map entries => uptoBulkEntries entries + 1
  | .held _ => 1
def uptoBulkAll {H : Type} : List (DataW H) → Nat
  | [] => 0
  | d :: r => uptoBulk d + uptoBulkAll r
def uptoBulkEntries {H : Type} : List (Lit × DataW H) → Nat
  | [] => 0
  | x :: r => uptoBulkEntry x + uptoBulkEntries r
def uptoBulkEntry {H : Type} : Lit × DataW H → Nat
  | (.string bytes, d) => bytes.length + uptoBulk d + 1
  | (_, d) => uptoBulk d + 1
 end
def uptoSmall : (H : Type) → List (DataW H) → Bool := fun _ ds => decide (uptoBulkAll ds ≤ 1048576)
def OpenSpec.upto (s : _root_.Go.ChangeSpec) : _root_.Go.OpenSpec := { _root_.Go.OpenSpec.ofChange s with cond := some uptoSmall }

/-- 'laws.FnExactConditionName', WHERE WHAT IT READS IS OF BULK AT MOST 1048576: true; the input reads as it did. -/
def fnExactConditionNameUptoRow : OpenClaim := { program := "ytpaggkfcdhomiaa", sum := "ff53e40f5d8570e2030209c02ea5465826f0219a7facd175c39a8bec806393ce", func := "loop.example/g00920/laws.FnExactConditionName", spec := "fnExactConditionName", apart := false, narrowed := true }
def FnExactConditionNameUptoSaid : Prop := fnExactConditionNameUptoRow.holds Try.pinned (OpenSpec.upto fnExactConditionNameSpec)

/-- 'laws.FnExactConstructionName', WHERE WHAT IT READS IS OF BULK AT MOST 1048576: true; the input reads as it did. -/
def fnExactConstructionNameUptoRow : OpenClaim := { program := "ytpaggkfcdhomiaa", sum := "ff53e40f5d8570e2030209c02ea5465826f0219a7facd175c39a8bec806393ce", func := "loop.example/g00920/laws.FnExactConstructionName", spec := "fnExactConstructionName", apart := false, narrowed := true }
def FnExactConstructionNameUptoSaid : Prop := fnExactConstructionNameUptoRow.holds Try.pinned (OpenSpec.upto fnExactConstructionNameSpec)

/-- 'laws.FnExactObjectName', WHERE WHAT IT READS IS OF BULK AT MOST 1048576: true; the input reads as it did. -/
def fnExactObjectNameUptoRow : OpenClaim := { program := "ytpaggkfcdhomiaa", sum := "ff53e40f5d8570e2030209c02ea5465826f0219a7facd175c39a8bec806393ce", func := "loop.example/g00920/laws.FnExactObjectName", spec := "fnExactObjectName", apart := false, narrowed := true }
def FnExactObjectNameUptoSaid : Prop := fnExactObjectNameUptoRow.holds Try.pinned (OpenSpec.upto fnExactObjectNameSpec)

/-- 'laws.FnExactObjectNamed', WHERE WHAT IT READS IS OF BULK AT MOST 1048576: true; the input reads as it did. -/
def fnExactObjectNamedUptoRow : OpenClaim := { program := "ytpaggkfcdhomiaa", sum := "ff53e40f5d8570e2030209c02ea5465826f0219a7facd175c39a8bec806393ce", func := "loop.example/g00920/laws.FnExactObjectNamed", spec := "fnExactObjectNamed", apart := false, narrowed := true }
def FnExactObjectNamedUptoSaid : Prop := fnExactObjectNamedUptoRow.holds Try.pinned (OpenSpec.upto fnExactObjectNamedSpec)

/-- 'laws.FnExactBlockNumbers', WHERE WHAT IT READS IS OF BULK AT MOST 1048576: true; the input reads as it did. -/
def fnExactBlockNumbersUptoRow : OpenClaim := { program := "ytpaggkfcdhomiaa", sum := "ff53e40f5d8570e2030209c02ea5465826f0219a7facd175c39a8bec806393ce", func := "loop.example/g00920/laws.FnExactBlockNumbers", spec := "fnExactBlockNumbers", apart := false, narrowed := true }
def FnExactBlockNumbersUptoSaid : Prop := fnExactBlockNumbersUptoRow.holds Try.pinned (OpenSpec.upto fnExactBlockNumbersSpec)

end Rows
end Go.Proofs.Ytpaggkfcdhomiaa
