/-
  No cell of these rows narrows 'for every input' (looked for: loops, veiled, ifaces, maps, wideKeys, modest, calm, conditions, laid).
  DERIVED. THE GIVEN ROWS OF THIS SEAT. 7 by the template 'for every input the law returns true; each argument reads behind the call as it read before'; 0 by the template 'total and deterministic' (their statements: YtemdjochphehjaaGreatTotals.lean).
  GIVEN WITH THE SEED: the statements are not yours to turn. If you find one false, say at which input.
  Laid BY PROGRAM, IN A SANDBOX (cutbox-rows.mjs): the forced cells as the released guide's own fill.sh prints them over the translation 611e09140aa04d1d… (all of the seat's roots in one cut). By AI agents, Wed Nov 11 2026. No macro, syntax, notation, axiom, sorry.
-/
import Derived.Test.YtemdjochphehjaaGreatChecked
import GoSem.Claim
import GoSem.ClaimJoined
import GoSem.ClaimMapViews
import Derived.JoinedTies
import Derived.KernelRfl
namespace Go.Proofs.YtemdjochphehjaaGreat
/- THE CELL 'sum', in the pinned program and in every row, IS THE sha256 OF THE DUMP (.gsa) THAT YtemdjochphehjaaGreatProg.lean LOADS. Nothing in Lean hashes anything: it is a label: what it is worth is what the hold of that sum in a sandbox is worth. -/
noncomputable def Tryz.pinned : Pinned := { name := "ytemdjochphehjaagreat", sum := "611e09140aa04d1ded9ad0d7052ec5ab2d28ff2874485cf852507d3a3c50cb35", checked := Tryz.checked }
namespace Rows
def none {H : Type} : Left H := { results := [], args := [] }

/-- 'laws.FnExactCodeObject': WHATEVER THE INPUT: true; the input reads as it did. -/
def fnExactCodeObjectSpec : ChangeSpec := { name := "fnExactCodeObject", fn := fun _ => fun
  | [d] => { results := [.lit (.bool true)], args := [d] }
  | _ => none }
def fnExactCodeObjectRow : OpenClaim := { program := "ytemdjochphehjaagreat", sum := "611e09140aa04d1ded9ad0d7052ec5ab2d28ff2874485cf852507d3a3c50cb35", func := "loop.example/g00920/laws.FnExactCodeObject", spec := "fnExactCodeObject", unfollowed := true, recurses := true, apart := false }
def FnExactCodeObjectSaid : Prop := fnExactCodeObjectRow.holds Tryz.pinned (OpenSpec.ofChange fnExactCodeObjectSpec)

/-- ITS FALSE NEIGHBOUR: 'it returns false'. Refute it at one input. -/
def fnExactCodeObjectWrong : ChangeSpec := { name := "fnExactCodeObject", fn := fun _ => fun
  | [d] => { results := [.lit (.bool false)], args := [d] }
  | _ => none }
def FnExactCodeObjectWrongFalsely : Prop := fnExactCodeObjectRow.holds Tryz.pinned (OpenSpec.ofChange fnExactCodeObjectWrong)

/-- 'laws.FnExactValidObject': WHATEVER THE INPUT: true; the input reads as it did. -/
def fnExactValidObjectSpec : ChangeSpec := { name := "fnExactValidObject", fn := fun _ => fun
  | [d] => { results := [.lit (.bool true)], args := [d] }
  | _ => none }
def fnExactValidObjectRow : OpenClaim := { program := "ytemdjochphehjaagreat", sum := "611e09140aa04d1ded9ad0d7052ec5ab2d28ff2874485cf852507d3a3c50cb35", func := "loop.example/g00920/laws.FnExactValidObject", spec := "fnExactValidObject", unfollowed := true, recurses := true, apart := false }
def FnExactValidObjectSaid : Prop := fnExactValidObjectRow.holds Tryz.pinned (OpenSpec.ofChange fnExactValidObjectSpec)

/-- ITS FALSE NEIGHBOUR: 'it returns false'. Refute it at one input. -/
def fnExactValidObjectWrong : ChangeSpec := { name := "fnExactValidObject", fn := fun _ => fun
  | [d] => { results := [.lit (.bool false)], args := [d] }
  | _ => none }
def FnExactValidObjectWrongFalsely : Prop := fnExactValidObjectRow.holds Tryz.pinned (OpenSpec.ofChange fnExactValidObjectWrong)

/-- 'laws.FnExactDesignOfObject': WHATEVER THE INPUT: true; the input reads as it did. -/
def fnExactDesignOfObjectSpec : ChangeSpec := { name := "fnExactDesignOfObject", fn := fun _ => fun
  | [d] => { results := [.lit (.bool true)], args := [d] }
  | _ => none }
def fnExactDesignOfObjectRow : OpenClaim := { program := "ytemdjochphehjaagreat", sum := "611e09140aa04d1ded9ad0d7052ec5ab2d28ff2874485cf852507d3a3c50cb35", func := "loop.example/g00920/laws.FnExactDesignOfObject", spec := "fnExactDesignOfObject", unfollowed := true, recurses := true, apart := false }
def FnExactDesignOfObjectSaid : Prop := fnExactDesignOfObjectRow.holds Tryz.pinned (OpenSpec.ofChange fnExactDesignOfObjectSpec)

/-- ITS FALSE NEIGHBOUR: 'it returns false'. Refute it at one input. -/
def fnExactDesignOfObjectWrong : ChangeSpec := { name := "fnExactDesignOfObject", fn := fun _ => fun
  | [d] => { results := [.lit (.bool false)], args := [d] }
  | _ => none }
def FnExactDesignOfObjectWrongFalsely : Prop := fnExactDesignOfObjectRow.holds Tryz.pinned (OpenSpec.ofChange fnExactDesignOfObjectWrong)

/-- 'laws.FnExactGroupOfObject': WHATEVER THE INPUT: true; the input reads as it did. -/
def fnExactGroupOfObjectSpec : ChangeSpec := { name := "fnExactGroupOfObject", fn := fun _ => fun
  | [d] => { results := [.lit (.bool true)], args := [d] }
  | _ => none }
def fnExactGroupOfObjectRow : OpenClaim := { program := "ytemdjochphehjaagreat", sum := "611e09140aa04d1ded9ad0d7052ec5ab2d28ff2874485cf852507d3a3c50cb35", func := "loop.example/g00920/laws.FnExactGroupOfObject", spec := "fnExactGroupOfObject", unfollowed := true, recurses := true, apart := false }
def FnExactGroupOfObjectSaid : Prop := fnExactGroupOfObjectRow.holds Tryz.pinned (OpenSpec.ofChange fnExactGroupOfObjectSpec)

/-- ITS FALSE NEIGHBOUR: 'it returns false'. Refute it at one input. -/
def fnExactGroupOfObjectWrong : ChangeSpec := { name := "fnExactGroupOfObject", fn := fun _ => fun
  | [d] => { results := [.lit (.bool false)], args := [d] }
  | _ => none }
def FnExactGroupOfObjectWrongFalsely : Prop := fnExactGroupOfObjectRow.holds Tryz.pinned (OpenSpec.ofChange fnExactGroupOfObjectWrong)

/-- 'laws.FnExactArrayOfObject': WHATEVER THE INPUT: true; the input reads as it did. -/
def fnExactArrayOfObjectSpec : ChangeSpec := { name := "fnExactArrayOfObject", fn := fun _ => fun
  | [d] => { results := [.lit (.bool true)], args := [d] }
  | _ => none }
def fnExactArrayOfObjectRow : OpenClaim := { program := "ytemdjochphehjaagreat", sum := "611e09140aa04d1ded9ad0d7052ec5ab2d28ff2874485cf852507d3a3c50cb35", func := "loop.example/g00920/laws.FnExactArrayOfObject", spec := "fnExactArrayOfObject", unfollowed := true, recurses := true, apart := false }
def FnExactArrayOfObjectSaid : Prop := fnExactArrayOfObjectRow.holds Tryz.pinned (OpenSpec.ofChange fnExactArrayOfObjectSpec)

/-- ITS FALSE NEIGHBOUR: 'it returns false'. Refute it at one input. -/
def fnExactArrayOfObjectWrong : ChangeSpec := { name := "fnExactArrayOfObject", fn := fun _ => fun
  | [d] => { results := [.lit (.bool false)], args := [d] }
  | _ => none }
def FnExactArrayOfObjectWrongFalsely : Prop := fnExactArrayOfObjectRow.holds Tryz.pinned (OpenSpec.ofChange fnExactArrayOfObjectWrong)

/-- 'laws.FnExactCodeOfObject': WHATEVER THE INPUT: true; the input reads as it did. -/
def fnExactCodeOfObjectSpec : ChangeSpec := { name := "fnExactCodeOfObject", fn := fun _ => fun
  | [d] => { results := [.lit (.bool true)], args := [d] }
  | _ => none }
def fnExactCodeOfObjectRow : OpenClaim := { program := "ytemdjochphehjaagreat", sum := "611e09140aa04d1ded9ad0d7052ec5ab2d28ff2874485cf852507d3a3c50cb35", func := "loop.example/g00920/laws.FnExactCodeOfObject", spec := "fnExactCodeOfObject", unfollowed := true, recurses := true, apart := false }
def FnExactCodeOfObjectSaid : Prop := fnExactCodeOfObjectRow.holds Tryz.pinned (OpenSpec.ofChange fnExactCodeOfObjectSpec)

/-- ITS FALSE NEIGHBOUR: 'it returns false'. Refute it at one input. -/
def fnExactCodeOfObjectWrong : ChangeSpec := { name := "fnExactCodeOfObject", fn := fun _ => fun
  | [d] => { results := [.lit (.bool false)], args := [d] }
  | _ => none }
def FnExactCodeOfObjectWrongFalsely : Prop := fnExactCodeOfObjectRow.holds Tryz.pinned (OpenSpec.ofChange fnExactCodeOfObjectWrong)

/-- 'laws.FnExactEquivalentCodes': WHATEVER THE INPUT: true; the input reads as it did. -/
def fnExactEquivalentCodesSpec : ChangeSpec := { name := "fnExactEquivalentCodes", fn := fun _ => fun
  | [d1, d2, d3] => { results := [.lit (.bool true)], args := [d1, d2, d3] }
  | _ => none }
def fnExactEquivalentCodesRow : OpenClaim := { program := "ytemdjochphehjaagreat", sum := "611e09140aa04d1ded9ad0d7052ec5ab2d28ff2874485cf852507d3a3c50cb35", func := "loop.example/g00920/laws.FnExactEquivalentCodes", spec := "fnExactEquivalentCodes", unfollowed := true, recurses := true, apart := false }
def FnExactEquivalentCodesSaid : Prop := fnExactEquivalentCodesRow.holds Tryz.pinned (OpenSpec.ofChange fnExactEquivalentCodesSpec)

/-- ITS FALSE NEIGHBOUR: 'it returns false'. Refute it at one input. -/
def fnExactEquivalentCodesWrong : ChangeSpec := { name := "fnExactEquivalentCodes", fn := fun _ => fun
  | [d1, d2, d3] => { results := [.lit (.bool false)], args := [d1, d2, d3] }
  | _ => none }
def FnExactEquivalentCodesWrongFalsely : Prop := fnExactEquivalentCodesRow.holds Tryz.pinned (OpenSpec.ofChange fnExactEquivalentCodesWrong)

/- THE SECOND FORM. 'bulk': how many values and letters a reading holds, each counted each time it is reached (what is shared counts as often as it is met; a slice's spare places count too). A statement '..UptoSaid' is the law's where the arguments, and the package variables that the reading takes, are together of bulk at most 1048576: NARROWER than '..Said'. Prove '..Said' where nothing that the law and all that it calls make is longer than what came in: it says more and counts as full. Else prove '..UptoSaid'. A law counts once. -/
mutual
def uptoBulk {H : Type} : DataW H → Nat
  | .lit (.string bytes) => bytes.length + 1
  | .lit _ => 1
  | .nil => 1
  | .ptr d => uptoBulk d + 1
  | .slice elems spare => uptoBulkAll elems + uptoBulkAll spare + 1
  | .agg parts => uptoBulkAll parts + 1
  | .iface _ d => uptoBulk d + 1
  | .map entries => uptoBulkEntries entries + 1
  | .held _ => 1
def uptoBulkAll {H : Type} : List (DataW H) → Nat
  | [] => 0
  | d :: r => uptoBulk d + uptoBulkAll r
def uptoBulkEntries {H : Type} : List (Lit × DataW H) → Nat
  | [] => 0
  | x :: r => uptoBulkEntry x + uptoBulkEntries r
def uptoBulkEntry {H : Type} : Lit × DataW H → Nat
  | (.string bytes, d) => bytes.length + uptoBulk d + 1
  | (_, d) => uptoBulk d + 1
 end
def uptoSmall : (H : Type) → List (DataW H) → Bool := fun _ ds => decide (uptoBulkAll ds ≤ 1048576)
def OpenSpec.upto (s : _root_.Go.ChangeSpec) : _root_.Go.OpenSpec := { _root_.Go.OpenSpec.ofChange s with cond := some uptoSmall }

/-- 'laws.FnExactCodeObject', WHERE WHAT IT READS IS OF BULK AT MOST 1048576: true; the input reads as it did. -/
def fnExactCodeObjectUptoRow : OpenClaim := { program := "ytemdjochphehjaagreat", sum := "611e09140aa04d1ded9ad0d7052ec5ab2d28ff2874485cf852507d3a3c50cb35", func := "loop.example/g00920/laws.FnExactCodeObject", spec := "fnExactCodeObject", unfollowed := true, recurses := true, apart := false, narrowed := true }
def FnExactCodeObjectUptoSaid : Prop := fnExactCodeObjectUptoRow.holds Tryz.pinned (OpenSpec.upto fnExactCodeObjectSpec)

/-- 'laws.FnExactValidObject', WHERE WHAT IT READS IS OF BULK AT MOST 1048576: true; the input reads as it did. -/
def fnExactValidObjectUptoRow : OpenClaim := { program := "ytemdjochphehjaagreat", sum := "611e09140aa04d1ded9ad0d7052ec5ab2d28ff2874485cf852507d3a3c50cb35", func := "loop.example/g00920/laws.FnExactValidObject", spec := "fnExactValidObject", unfollowed := true, recurses := true, apart := false, narrowed := true }
def FnExactValidObjectUptoSaid : Prop := fnExactValidObjectUptoRow.holds Tryz.pinned (OpenSpec.upto fnExactValidObjectSpec)

/-- 'laws.FnExactDesignOfObject', WHERE WHAT IT READS IS OF BULK AT MOST 1048576: true; the input reads as it did. -/
def fnExactDesignOfObjectUptoRow : OpenClaim := { program := "ytemdjochphehjaagreat", sum := "611e09140aa04d1ded9ad0d7052ec5ab2d28ff2874485cf852507d3a3c50cb35", func := "loop.example/g00920/laws.FnExactDesignOfObject", spec := "fnExactDesignOfObject", unfollowed := true, recurses := true, apart := false, narrowed := true }
def FnExactDesignOfObjectUptoSaid : Prop := fnExactDesignOfObjectUptoRow.holds Tryz.pinned (OpenSpec.upto fnExactDesignOfObjectSpec)

/-- 'laws.FnExactGroupOfObject', WHERE WHAT IT READS IS OF BULK AT MOST 1048576: true; the input reads as it did. -/
def fnExactGroupOfObjectUptoRow : OpenClaim := { program := "ytemdjochphehjaagreat", sum := "611e09140aa04d1ded9ad0d7052ec5ab2d28ff2874485cf852507d3a3c50cb35", func := "loop.example/g00920/laws.FnExactGroupOfObject", spec := "fnExactGroupOfObject", unfollowed := true, recurses := true, apart := false, narrowed := true }
def FnExactGroupOfObjectUptoSaid : Prop := fnExactGroupOfObjectUptoRow.holds Tryz.pinned (OpenSpec.upto fnExactGroupOfObjectSpec)

/-- 'laws.FnExactArrayOfObject', WHERE WHAT IT READS IS OF BULK AT MOST 1048576: true; the input reads as it did. -/
def fnExactArrayOfObjectUptoRow : OpenClaim := { program := "ytemdjochphehjaagreat", sum := "611e09140aa04d1ded9ad0d7052ec5ab2d28ff2874485cf852507d3a3c50cb35", func := "loop.example/g00920/laws.FnExactArrayOfObject", spec := "fnExactArrayOfObject", unfollowed := true, recurses := true, apart := false, narrowed := true }
def FnExactArrayOfObjectUptoSaid : Prop := fnExactArrayOfObjectUptoRow.holds Tryz.pinned (OpenSpec.upto fnExactArrayOfObjectSpec)

/-- 'laws.FnExactCodeOfObject', WHERE WHAT IT READS IS OF BULK AT MOST 1048576: true; the input reads as it did. -/
def fnExactCodeOfObjectUptoRow : OpenClaim := { program := "ytemdjochphehjaagreat", sum := "611e09140aa04d1ded9ad0d7052ec5ab2d28ff2874485cf852507d3a3c50cb35", func := "loop.example/g00920/laws.FnExactCodeOfObject", spec := "fnExactCodeOfObject", unfollowed := true, recurses := true, apart := false, narrowed := true }
def FnExactCodeOfObjectUptoSaid : Prop := fnExactCodeOfObjectUptoRow.holds Tryz.pinned (OpenSpec.upto fnExactCodeOfObjectSpec)

/-- 'laws.FnExactEquivalentCodes', WHERE WHAT IT READS IS OF BULK AT MOST 1048576: true; the input reads as it did. -/
def fnExactEquivalentCodesUptoRow : OpenClaim := { program := "ytemdjochphehjaagreat", sum := "611e09140aa04d1ded9ad0d7052ec5ab2d28ff2874485cf852507d3a3c50cb35", func := "loop.example/g00920/laws.FnExactEquivalentCodes", spec := "fnExactEquivalentCodes", unfollowed := true, recurses := true, apart := false, narrowed := true }
def FnExactEquivalentCodesUptoSaid : Prop := fnExactEquivalentCodesUptoRow.holds Tryz.pinned (OpenSpec.upto fnExactEquivalentCodesSpec)

end Rows
end Go.Proofs.YtemdjochphehjaaGreat
