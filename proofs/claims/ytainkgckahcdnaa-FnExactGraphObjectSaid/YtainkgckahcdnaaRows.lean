/-
  No cell of these rows narrows 'for every input' (looked for: loops, veiled, ifaces, maps, wideKeys, modest, calm, conditions, laid).
  DERIVED. THE GIVEN ROWS OF THIS SEAT. 5 by the template 'for every input the law returns true; each argument reads behind the call as it read before'; 0 by the template 'total and deterministic' (their statements: YtainkgckahcdnaaTotals.lean).
  GIVEN WITH THE SEED: the statements are not yours to turn. If you find one false, say at which input.
  Laid BY PROGRAM, IN A SANDBOX (cutbox-rows.mjs): the forced cells as the released guide's own fill.sh prints them over the translation 7a6e6254b9ab681a… (all of the seat's roots in one cut). By AI agents, Wed Nov 11 2026. No macro, syntax, notation, axiom, sorry.
-/
import Derived.Test.YtainkgckahcdnaaChecked
import GoSem.Claim
import GoSem.ClaimJoined
import GoSem.ClaimMapViews
import Derived.JoinedTies
import Derived.KernelRfl
namespace Go.Proofs.Ytainkgckahcdnaa
/- THE CELL 'sum', in the pinned program and in every row, IS THE sha256 OF THE DUMP (.gsa) THAT YtainkgckahcdnaaProg.lean LOADS. Nothing in Lean hashes anything: it is a label: what it is worth is what the hold of that sum in a sandbox is worth. -/
noncomputable def Try.pinned : Pinned := { name := "ytainkgckahcdnaa", sum := "7a6e6254b9ab681a260772fa85e1f4093e4e2ddfd3687f7d425e09ca1487920f", checked := Try.checked }
namespace Rows
def none {H : Type} : Left H := { results := [], args := [] }

/-- 'laws.FnExactHadamardObject': WHATEVER THE INPUT: true; the input reads as it did. -/
def fnExactHadamardObjectSpec : ChangeSpec := { name := "fnExactHadamardObject", fn := fun _ => fun
  | [d] => { results := [.lit (.bool true)], args := [d] }
  | _ => none }
def fnExactHadamardObjectRow : OpenClaim := { program := "ytainkgckahcdnaa", sum := "7a6e6254b9ab681a260772fa85e1f4093e4e2ddfd3687f7d425e09ca1487920f", func := "loop.example/g00920/laws.FnExactHadamardObject", spec := "fnExactHadamardObject", unfollowed := true, recurses := true, apart := false }
def FnExactHadamardObjectSaid : Prop := fnExactHadamardObjectRow.holds Try.pinned (OpenSpec.ofChange fnExactHadamardObjectSpec)

/-- ITS FALSE NEIGHBOUR: 'it returns false'. Refute it at one input. -/
def fnExactHadamardObjectWrong : ChangeSpec := { name := "fnExactHadamardObject", fn := fun _ => fun
  | [d] => { results := [.lit (.bool false)], args := [d] }
  | _ => none }
def FnExactHadamardObjectWrongFalsely : Prop := fnExactHadamardObjectRow.holds Try.pinned (OpenSpec.ofChange fnExactHadamardObjectWrong)

/-- 'laws.FnExactArrayObject': WHATEVER THE INPUT: true; the input reads as it did. -/
def fnExactArrayObjectSpec : ChangeSpec := { name := "fnExactArrayObject", fn := fun _ => fun
  | [d] => { results := [.lit (.bool true)], args := [d] }
  | _ => none }
def fnExactArrayObjectRow : OpenClaim := { program := "ytainkgckahcdnaa", sum := "7a6e6254b9ab681a260772fa85e1f4093e4e2ddfd3687f7d425e09ca1487920f", func := "loop.example/g00920/laws.FnExactArrayObject", spec := "fnExactArrayObject", unfollowed := true, recurses := true, apart := false }
def FnExactArrayObjectSaid : Prop := fnExactArrayObjectRow.holds Try.pinned (OpenSpec.ofChange fnExactArrayObjectSpec)

/-- ITS FALSE NEIGHBOUR: 'it returns false'. Refute it at one input. -/
def fnExactArrayObjectWrong : ChangeSpec := { name := "fnExactArrayObject", fn := fun _ => fun
  | [d] => { results := [.lit (.bool false)], args := [d] }
  | _ => none }
def FnExactArrayObjectWrongFalsely : Prop := fnExactArrayObjectRow.holds Try.pinned (OpenSpec.ofChange fnExactArrayObjectWrong)

/-- 'laws.FnExactDesignObject': WHATEVER THE INPUT: true; the input reads as it did. -/
def fnExactDesignObjectSpec : ChangeSpec := { name := "fnExactDesignObject", fn := fun _ => fun
  | [d] => { results := [.lit (.bool true)], args := [d] }
  | _ => none }
def fnExactDesignObjectRow : OpenClaim := { program := "ytainkgckahcdnaa", sum := "7a6e6254b9ab681a260772fa85e1f4093e4e2ddfd3687f7d425e09ca1487920f", func := "loop.example/g00920/laws.FnExactDesignObject", spec := "fnExactDesignObject", unfollowed := true, recurses := true, apart := false }
def FnExactDesignObjectSaid : Prop := fnExactDesignObjectRow.holds Try.pinned (OpenSpec.ofChange fnExactDesignObjectSpec)

/-- ITS FALSE NEIGHBOUR: 'it returns false'. Refute it at one input. -/
def fnExactDesignObjectWrong : ChangeSpec := { name := "fnExactDesignObject", fn := fun _ => fun
  | [d] => { results := [.lit (.bool false)], args := [d] }
  | _ => none }
def FnExactDesignObjectWrongFalsely : Prop := fnExactDesignObjectRow.holds Try.pinned (OpenSpec.ofChange fnExactDesignObjectWrong)

/-- 'laws.FnExactGraphObject': WHATEVER THE INPUT: true; the input reads as it did. -/
def fnExactGraphObjectSpec : ChangeSpec := { name := "fnExactGraphObject", fn := fun _ => fun
  | [d] => { results := [.lit (.bool true)], args := [d] }
  | _ => none }
def fnExactGraphObjectRow : OpenClaim := { program := "ytainkgckahcdnaa", sum := "7a6e6254b9ab681a260772fa85e1f4093e4e2ddfd3687f7d425e09ca1487920f", func := "loop.example/g00920/laws.FnExactGraphObject", spec := "fnExactGraphObject", unfollowed := true, recurses := true, apart := false }
def FnExactGraphObjectSaid : Prop := fnExactGraphObjectRow.holds Try.pinned (OpenSpec.ofChange fnExactGraphObjectSpec)

/-- ITS FALSE NEIGHBOUR: 'it returns false'. Refute it at one input. -/
def fnExactGraphObjectWrong : ChangeSpec := { name := "fnExactGraphObject", fn := fun _ => fun
  | [d] => { results := [.lit (.bool false)], args := [d] }
  | _ => none }
def FnExactGraphObjectWrongFalsely : Prop := fnExactGraphObjectRow.holds Try.pinned (OpenSpec.ofChange fnExactGraphObjectWrong)

/-- 'laws.FnExactSquareObject': WHATEVER THE INPUT: true; the input reads as it did. -/
def fnExactSquareObjectSpec : ChangeSpec := { name := "fnExactSquareObject", fn := fun _ => fun
  | [d] => { results := [.lit (.bool true)], args := [d] }
  | _ => none }
def fnExactSquareObjectRow : OpenClaim := { program := "ytainkgckahcdnaa", sum := "7a6e6254b9ab681a260772fa85e1f4093e4e2ddfd3687f7d425e09ca1487920f", func := "loop.example/g00920/laws.FnExactSquareObject", spec := "fnExactSquareObject", unfollowed := true, recurses := true, apart := false }
def FnExactSquareObjectSaid : Prop := fnExactSquareObjectRow.holds Try.pinned (OpenSpec.ofChange fnExactSquareObjectSpec)

/-- ITS FALSE NEIGHBOUR: 'it returns false'. Refute it at one input. -/
def fnExactSquareObjectWrong : ChangeSpec := { name := "fnExactSquareObject", fn := fun _ => fun
  | [d] => { results := [.lit (.bool false)], args := [d] }
  | _ => none }
def FnExactSquareObjectWrongFalsely : Prop := fnExactSquareObjectRow.holds Try.pinned (OpenSpec.ofChange fnExactSquareObjectWrong)

/- THE SECOND FORM. 'bulk': how many values and letters a reading holds, each counted each time it is reached (what is shared counts as often as it is met; a slice's spare places count too). A statement '..UptoSaid' is the law's where the arguments, and the package variables that the reading takes, are together of bulk at most 1048576: NARROWER than '..Said'. Prove '..Said' where nothing that the law and all that it calls make is longer than what came in: it says more and counts as full. Else prove '..UptoSaid'. A law counts once. -/
mutual
def uptoBulk {H : Type} : DataW H → Nat
  | .lit (.string bytes) => bytes.length + 1
  | .lit _ => 1
  | .nil => 1
  | .ptr d => uptoBulk d + 1
  | .slice elems spare => uptoBulkAll elems + uptoBulkAll spare + 1
  | .agg parts => uptoBulkAll parts + 1
  | .iface _ d => uptoBulk d + 1
  | .map entries => uptoBulkEntries entries + 1
  | .held _ => 1
def uptoBulkAll {H : Type} : List (DataW H) → Nat
  | [] => 0
  | d :: r => uptoBulk d + uptoBulkAll r
def uptoBulkEntries {H : Type} : List (Lit × DataW H) → Nat
  | [] => 0
  | x :: r => uptoBulkEntry x + uptoBulkEntries r
def uptoBulkEntry {H : Type} : Lit × DataW H → Nat
  | (.string bytes, d) => bytes.length + uptoBulk d + 1
  | (_, d) => uptoBulk d + 1
 end
def uptoSmall : (H : Type) → List (DataW H) → Bool := fun _ ds => decide (uptoBulkAll ds ≤ 1048576)
def OpenSpec.upto (s : _root_.Go.ChangeSpec) : _root_.Go.OpenSpec := { _root_.Go.OpenSpec.ofChange s with cond := some uptoSmall }

/-- 'laws.FnExactHadamardObject', WHERE WHAT IT READS IS OF BULK AT MOST 1048576: true; the input reads as it did. -/
def fnExactHadamardObjectUptoRow : OpenClaim := { program := "ytainkgckahcdnaa", sum := "7a6e6254b9ab681a260772fa85e1f4093e4e2ddfd3687f7d425e09ca1487920f", func := "loop.example/g00920/laws.FnExactHadamardObject", spec := "fnExactHadamardObject", unfollowed := true, recurses := true, apart := false, narrowed := true }
def FnExactHadamardObjectUptoSaid : Prop := fnExactHadamardObjectUptoRow.holds Try.pinned (OpenSpec.upto fnExactHadamardObjectSpec)

/-- 'laws.FnExactArrayObject', WHERE WHAT IT READS IS OF BULK AT MOST 1048576: true; the input reads as it did. -/
def fnExactArrayObjectUptoRow : OpenClaim := { program := "ytainkgckahcdnaa", sum := "7a6e6254b9ab681a260772fa85e1f4093e4e2ddfd3687f7d425e09ca1487920f", func := "loop.example/g00920/laws.FnExactArrayObject", spec := "fnExactArrayObject", unfollowed := true, recurses := true, apart := false, narrowed := true }
def FnExactArrayObjectUptoSaid : Prop := fnExactArrayObjectUptoRow.holds Try.pinned (OpenSpec.upto fnExactArrayObjectSpec)

/-- 'laws.FnExactDesignObject', WHERE WHAT IT READS IS OF BULK AT MOST 1048576: true; the input reads as it did. -/
def fnExactDesignObjectUptoRow : OpenClaim := { program := "ytainkgckahcdnaa", sum := "7a6e6254b9ab681a260772fa85e1f4093e4e2ddfd3687f7d425e09ca1487920f", func := "loop.example/g00920/laws.FnExactDesignObject", spec := "fnExactDesignObject", unfollowed := true, recurses := true, apart := false, narrowed := true }
def FnExactDesignObjectUptoSaid : Prop := fnExactDesignObjectUptoRow.holds Try.pinned (OpenSpec.upto fnExactDesignObjectSpec)

/-- 'laws.FnExactGraphObject', WHERE WHAT IT READS IS OF BULK AT MOST 1048576: true; the input reads as it did. -/
def fnExactGraphObjectUptoRow : OpenClaim := { program := "ytainkgckahcdnaa", sum := "7a6e6254b9ab681a260772fa85e1f4093e4e2ddfd3687f7d425e09ca1487920f", func := "loop.example/g00920/laws.FnExactGraphObject", spec := "fnExactGraphObject", unfollowed := true, recurses := true, apart := false, narrowed := true }
def FnExactGraphObjectUptoSaid : Prop := fnExactGraphObjectUptoRow.holds Try.pinned (OpenSpec.upto fnExactGraphObjectSpec)

/-- 'laws.FnExactSquareObject', WHERE WHAT IT READS IS OF BULK AT MOST 1048576: true; the input reads as it did. -/
def fnExactSquareObjectUptoRow : OpenClaim := { program := "ytainkgckahcdnaa", sum := "7a6e6254b9ab681a260772fa85e1f4093e4e2ddfd3687f7d425e09ca1487920f", func := "loop.example/g00920/laws.FnExactSquareObject", spec := "fnExactSquareObject", unfollowed := true, recurses := true, apart := false, narrowed := true }
def FnExactSquareObjectUptoSaid : Prop := fnExactSquareObjectUptoRow.holds Try.pinned (OpenSpec.upto fnExactSquareObjectSpec)

end Rows
end Go.Proofs.Ytainkgckahcdnaa
