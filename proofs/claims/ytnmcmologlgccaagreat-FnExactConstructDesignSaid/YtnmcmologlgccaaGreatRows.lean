/-
  No cell of these rows narrows 'for every input' (looked for: loops, veiled, ifaces, maps, wideKeys, modest, calm, conditions, laid).
  DERIVED. THE GIVEN ROWS OF THIS SEAT. 2 by the template 'for every input the law returns true; each argument reads behind the call as it read before'; 0 by the template 'total and deterministic' (their statements: YtnmcmologlgccaaGreatTotals.lean).
  GIVEN WITH THE SEED: the statements are not yours to turn. If you find one false, say at which input.
  Laid BY PROGRAM, IN A SANDBOX (cutbox-rows.mjs): the forced cells as the released guide's own fill.sh prints them over the translation d14e3c032a8805bd… (all of the seat's roots in one cut). By AI agents, Wed Nov 11 2026. No macro, syntax, notation, axiom, sorry.
-/
import Derived.Test.YtnmcmologlgccaaGreatChecked
import GoSem.Claim
import GoSem.ClaimJoined
import GoSem.ClaimMapViews
import Derived.JoinedTies
import Derived.KernelRfl
namespace Go.Proofs.YtnmcmologlgccaaGreat
/- THE CELL 'sum', in the pinned program and in every row, IS THE sha256 OF THE DUMP (.gsa) THAT YtnmcmologlgccaaGreatProg.lean LOADS. Nothing in Lean hashes anything: it is a label: what it is worth is what the hold of that sum in a sandbox is worth. -/
noncomputable def Tryz.pinned : Pinned := { name := "ytnmcmologlgccaagreat", sum := "d14e3c032a8805bdabde4a3de2aa5c7e9f2b5fc74092eb66ccc7532ee0592508", checked := Tryz.checked }
namespace Rows
def none {H : Type} : Left H := { results := [], args := [] }

/-- 'laws.FnConstructed': WHATEVER THE INPUT: true; the input reads as it did. -/
def fnConstructedSpec : ChangeSpec := { name := "fnConstructed", fn := fun _ => fun
  | [d] => { results := [.lit (.bool true)], args := [d] }
  | _ => none }
def fnConstructedRow : OpenClaim := { program := "ytnmcmologlgccaagreat", sum := "d14e3c032a8805bdabde4a3de2aa5c7e9f2b5fc74092eb66ccc7532ee0592508", func := "loop.example/g00920/laws.FnConstructed", spec := "fnConstructed", unfollowed := true, recurses := true, apart := false }
def FnConstructedSaid : Prop := fnConstructedRow.holds Tryz.pinned (OpenSpec.ofChange fnConstructedSpec)

/-- ITS FALSE NEIGHBOUR: 'it returns false'. Refute it at one input. -/
def fnConstructedWrong : ChangeSpec := { name := "fnConstructed", fn := fun _ => fun
  | [d] => { results := [.lit (.bool false)], args := [d] }
  | _ => none }
def FnConstructedWrongFalsely : Prop := fnConstructedRow.holds Tryz.pinned (OpenSpec.ofChange fnConstructedWrong)

/-- 'laws.FnExactConstructDesign': WHATEVER THE INPUT: true; the input reads as it did. -/
def fnExactConstructDesignSpec : ChangeSpec := { name := "fnExactConstructDesign", fn := fun _ => fun
  | [d1, d2, d3] => { results := [.lit (.bool true)], args := [d1, d2, d3] }
  | _ => none }
def fnExactConstructDesignRow : OpenClaim := { program := "ytnmcmologlgccaagreat", sum := "d14e3c032a8805bdabde4a3de2aa5c7e9f2b5fc74092eb66ccc7532ee0592508", func := "loop.example/g00920/laws.FnExactConstructDesign", spec := "fnExactConstructDesign", unfollowed := true, recurses := true, apart := false }
def FnExactConstructDesignSaid : Prop := fnExactConstructDesignRow.holds Tryz.pinned (OpenSpec.ofChange fnExactConstructDesignSpec)

/-- ITS FALSE NEIGHBOUR: 'it returns false'. Refute it at one input. -/
def fnExactConstructDesignWrong : ChangeSpec := { name := "fnExactConstructDesign", fn := fun _ => fun
  | [d1, d2, d3] => { results := [.lit (.bool false)], args := [d1, d2, d3] }
  | _ => none }
def FnExactConstructDesignWrongFalsely : Prop := fnExactConstructDesignRow.holds Tryz.pinned (OpenSpec.ofChange fnExactConstructDesignWrong)

/- THE SECOND FORM. 'bulk': how many values and letters a reading holds, each counted each time it is reached (what is shared counts as often as it is met; a slice's spare places count too). A statement '..UptoSaid' is the law's where the arguments, and the package variables that the reading takes, are together of bulk at most 1048576: NARROWER than '..Said'. Prove '..Said' where nothing that the law and all that it calls make is longer than what came in: it says more and counts as full. Else prove '..UptoSaid'. A law counts once. -/
mutual
def uptoBulk {H : Type} : DataW H → Nat
  | .lit (.string bytes) => bytes.length + 1
  | .lit _ => 1
  | .nil => 1
  | .ptr d => uptoBulk d + 1
  | .slice elems spare => uptoBulkAll elems + uptoBulkAll spare + 1
  | .agg parts => uptoBulkAll parts + 1
  | .iface _ d => uptoBulk d + 1
  | .map entries => uptoBulkEntries entries + 1
  | .held _ => 1
def uptoBulkAll {H : Type} : List (DataW H) → Nat
  | [] => 0
  | d :: r => uptoBulk d + uptoBulkAll r
def uptoBulkEntries {H : Type} : List (Lit × DataW H) → Nat
  | [] => 0
  | x :: r => uptoBulkEntry x + uptoBulkEntries r
def uptoBulkEntry {H : Type} : Lit × DataW H → Nat
  | (.string bytes, d) => bytes.length + uptoBulk d + 1
  | (_, d) => uptoBulk d + 1
 end
def uptoSmall : (H : Type) → List (DataW H) → Bool := fun _ ds => decide (uptoBulkAll ds ≤ 1048576)
def OpenSpec.upto (s : _root_.Go.ChangeSpec) : _root_.Go.OpenSpec := { _root_.Go.OpenSpec.ofChange s with cond := some uptoSmall }

/-- 'laws.FnConstructed', WHERE WHAT IT READS IS OF BULK AT MOST 1048576: true; the input reads as it did. -/
def fnConstructedUptoRow : OpenClaim := { program := "ytnmcmologlgccaagreat", sum := "d14e3c032a8805bdabde4a3de2aa5c7e9f2b5fc74092eb66ccc7532ee0592508", func := "loop.example/g00920/laws.FnConstructed", spec := "fnConstructed", unfollowed := true, recurses := true, apart := false, narrowed := true }
def FnConstructedUptoSaid : Prop := fnConstructedUptoRow.holds Tryz.pinned (OpenSpec.upto fnConstructedSpec)

/-- 'laws.FnExactConstructDesign', WHERE WHAT IT READS IS OF BULK AT MOST 1048576: true; the input reads as it did. -/
def fnExactConstructDesignUptoRow : OpenClaim := { program := "ytnmcmologlgccaagreat", sum := "d14e3c032a8805bdabde4a3de2aa5c7e9f2b5fc74092eb66ccc7532ee0592508", func := "loop.example/g00920/laws.FnExactConstructDesign", spec := "fnExactConstructDesign", unfollowed := true, recurses := true, apart := false, narrowed := true }
def FnExactConstructDesignUptoSaid : Prop := fnExactConstructDesignUptoRow.holds Tryz.pinned (OpenSpec.upto fnExactConstructDesignSpec)

end Rows
end Go.Proofs.YtnmcmologlgccaaGreat
