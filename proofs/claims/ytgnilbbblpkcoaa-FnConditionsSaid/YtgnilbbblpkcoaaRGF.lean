/- A region that draws its order, its last operation one that waits for all others: the others are walked first, then it. Over any program. No condition beyond those stated. -/
import Derived.Deep.RegionHeldLaw
import Derived.Deep.DrawnRows
import Derived.WalkKit
set_option linter.unusedVariables false
set_option linter.unusedSimpArgs false
namespace Go.Proofs.Ytgnilbbblpkcoaa
open Go
section
variable {P : Program}
def atEnd (F : Act → World → Prop) (Q : Exit → Act → World → Prop) : Exit → Act → World → Prop
  | .normal, a, w => F a w
  | e, a, w => Q e a w
theorem wp_atEnd {F : Act → World → Prop} {Q : Exit → Act → World → Prop} {o : Oper} {a : Act} {w : World} {K : Act → World → Prop} (h : o.wp P a w K (atEnd F Q)) : o.wp P a w K Q := by
  unfold Oper.wp at *
  generalize (execOp a.eval o).run P w = r at *
  cases r with
  | ok n w' =>
    cases n with
    | value u => exact h
    | skip => exact h
    | defer d => exact h
    | enter f args =>
      refine Calls.mono h fun e w'' he => ?_
      cases e with
      | returned u => exact he
      | panicked c => exact he
      | outgrown => exact he
    | _ => exact h
  | halt x w' =>
    cases x with
    | panic u => exact h
    | _ => exact h
theorem op_left {l : List Oper} {oz : Oper} {i : Nat} (h : i < l.length) : (l ++ [oz]).toArray[i]? = l.toArray[i]? := by simp [List.getElem?_append_left h]
theorem op_last {l : List Oper} {oz : Oper} : (l ++ [oz]).toArray[l.length]? = some oz := by simp
theorem getD_push {listed : Array Bool} {i : Nat} (d : Bool) (h : i < listed.size) : (listed.push false).getD i d = listed.getD i d := by
  simp [Array.getD_eq_getD_getElem?, Array.getElem?_push, Nat.ne_of_lt h]
end
end Go.Proofs.Ytgnilbbblpkcoaa
namespace Go.Proofs.Ytgnilbbblpkcoaa
open Go
section
variable {P : Program}
def Closed (md : Region.Mode) (l : List Oper) (listed : Array Bool) : Prop := ∀ i o, l[i]? = some o → listed.getD i true = true → ∀ e ∈ o.after, Region.binds md e = true → listed.getD e.on true = true
theorem closed_none (md : Region.Mode) (l : List Oper) : Closed md l (Array.replicate l.length false) := fun i o ho h => by
  have hi := (List.getElem?_eq_some_iff.1 ho).1
  simp [Array.getD_eq_getD_getElem?, hi] at h
theorem closed_set {md : Region.Mode} {l : List Oper} {listed : Array Bool} {i : Nat} (hi : i < listed.size) (h : Closed md l listed) (hr : i ∈ Region.ready md l.toArray listed) : Closed md l (listed.setIfInBounds i true) := fun k o ho hk e he hb => by
  have mono : ∀ q, listed.getD q true = true → (listed.setIfInBounds i true).getD q true = true := fun q hq => by
    rw [Array.getD_eq_getD_getElem?] at hq ⊢
    rw [Array.getElem?_setIfInBounds]
    split
    · first | rfl | (split <;> simp)
    · exact hq
  obtain ⟨_, o', ho', hall⟩ := mem_ready.1 hr
  by_cases e1 : k = i
  · subst e1
    have : o' = o := by
      have h2 : l[k]? = some o' := by simpa using ho'
      rw [ho] at h2
      injection h2 with h2
      exact h2.symm
    subst this
    have h3 := hall e he hb
    refine mono _ ?_
    rw [Array.getD_eq_getD_getElem?] at h3 ⊢
    cases hq : listed[e.on]? with
    | none => rfl
    | some q => rw [hq] at h3; simpa using h3
  · refine mono _ (h k o ho ?_ e he hb)
    rw [Array.getD_eq_getD_getElem?, Array.getElem?_setIfInBounds, if_neg (fun e => e1 e.symm)] at hk
    rw [Array.getD_eq_getD_getElem?]
    exact hk
end
end Go.Proofs.Ytgnilbbblpkcoaa
