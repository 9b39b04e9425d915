/- 'FnExactSameObject' of this seat, proved: for every input the law returns true and its arguments read as before. No condition. -/
import Derived.Test.YtonjkdalkpccpaaRows
import Derived.WalkKit
import Derived.ProofKit
import Derived.OpenShut
import Derived.Test.YtonjkdalkpccpaaSameL
import Derived.Test.YtonjkdalkpccpaaOpen
namespace Go.Proofs.Ytonjkdalkpccpaa.fnExactSameObject
open Go.ChangeShapes Go.WideShapes Go.ChangeAt Go.RowKit
set_option linter.unusedVariables false

theorem own : ownKnob Try.prog.godebug = none := by kernel_rfl
theorem laidOut : laidOutB Try.prog = true := by kernel_rfl

set_option maxRecDepth 100000 in
theorem lifted (os : Os) (started : os.Started) (H : Type) (enc : TypeId × Value → H) :
    ReturnsInHanded {} Try.checked os 3 .any (Rows.fnExactSameObjectSpec.pre6 enc Try.prog Try.f3 Rows.fnExactSameObjectRow.domain false) (Rows.fnExactSameObjectSpec.post enc Try.prog Try.f3 false true false false) := by
  refine returnsInHanded_of_change (C := Try.checked) own started (by kernel_rfl) Try.func3
    (ChangeSpec.witness6 (enc := enc) (C := Try.checked) false ⟨#[], #[.agg #[.int .i64 0, .int .i64 0, .slice none 0 0], .agg #[.int .i64 0, .int .i64 0, .slice none 0 0]], []⟩ 8 (by kernel_rfl) (by kernel_rfl) (by kernel_rfl) (by kernel_rfl)) ?_
  intro W base args ds gs before hval0 hW hcnd _
  have hval : ∀ (j : Nat) t v, Try.f3.params[j]? = some t → args[j]? = some v → Value.okWide Try.prog W .any base t v := hval0
  have hW' := hW
  obtain ⟨p, q, hA0, hV, rfl, hfz, hnd⟩ := hW
  have hA : DataW.TrodAll enc Try.prog W 0 (fun _ => true) true Try.f3.params.toList args.toList ds p := hA0
  rw [Try.params3] at hA hval
  obtain ⟨v0, vs0, d0, ds0, p0, q0, hargs, rfl, rfl, h0, r0⟩ := trodAll_cons hA
  obtain ⟨v1, vs1, d1, ds1, p1, q1, rfl, rfl, rfl, h1, r1⟩ := trodAll_cons r0
  obtain ⟨rfl, rfl, rfl⟩ := trodAll_nil r1
  obtain rfl : args = #[v0, v1] := by cases args; simp_all
  obtain ⟨rfl, rfl⟩ := trodVars_none hV
  have k0 := h0
  have lt0 : ∀ x ∈ p0, x.block < W.heap.size := by obtain ⟨m, hm⟩ := k0; exact DataW.trod_lt m _ _ _ hm
  obtain ⟨c00, c01, c02, y00, y01, y02, mm0, rfl, -, -, u00, u01, u02⟩ := Go.Joins.open_agg3 Try.underlying24 (by kernel_rfl) (by kernel_rfl) (hval 0 24 v0 rfl rfl) h0
  obtain ⟨k00, e00, -, -⟩ := DataW.trod_int Try.underlying2 u00
  obtain ⟨k01, e01, -, -⟩ := DataW.trod_int Try.underlying2 u01
  obtain rfl : c00 = .int .i64 k00 := by simpa using e00
  obtain rfl : c01 = .int .i64 k01 := by simpa using e01
  obtain ⟨A0, n0, cc0, z0, rfl, ln0, lc0, rr0⟩ := open_RR Try.underlying22 Try.underlying34 Try.underlying2 (by kernel_rfl) (by kernel_rfl) u02
  have k1 := h1
  have lt1 : ∀ x ∈ p1, x.block < W.heap.size := by obtain ⟨m, hm⟩ := k1; exact DataW.trod_lt m _ _ _ hm
  obtain ⟨c10, c11, c12, y10, y11, y12, mm1, rfl, -, -, u10, u11, u12⟩ := Go.Joins.open_agg3 Try.underlying24 (by kernel_rfl) (by kernel_rfl) (hval 1 24 v1 rfl rfl) h1
  obtain ⟨k10, e10, -, -⟩ := DataW.trod_int Try.underlying2 u10
  obtain ⟨k11, e11, -, -⟩ := DataW.trod_int Try.underlying2 u11
  obtain rfl : c10 = .int .i64 k10 := by simpa using e10
  obtain rfl : c11 = .int .i64 k11 := by simpa using e11
  obtain ⟨A1, n1, cc1, z1, rfl, ln1, lc1, rr1⟩ := open_RR Try.underlying22 Try.underlying34 Try.underlying2 (by kernel_rfl) (by kernel_rfl) u12
  clear hA0 hval0
  refine (law_SameObject k00 k01 k10 k11 A0 A1 n0 n1 cc0 cc1 z0 z1 W rr0 rr1 (by omega) (by omega)).mono fun e W' ⟨he, bel⟩ => ?_
  subst he
  exact ⟨_, rfl, _, _, _, [], _, [], hW', trodAll_mk1 (shut_bool Try.underlying4 _), (trodAll_cons_mk (Below.trod laidOut (by kernel_rfl) (of_decide_eq_true (by kernel_rfl)) k0 bel lt0) (trodAll_cons_mk (Below.trod laidOut (by kernel_rfl) (of_decide_eq_true (by kernel_rfl)) k1 bel lt1) trodAll_mk0)), rfl, bel.frame _, fun h => by cases h⟩

theorem over : Rows.fnExactSameObjectRow.holds Try.pinned (OpenSpec.ofChange Rows.fnExactSameObjectSpec) :=
  OpenClaim.holds_of_wide 3 Try.f3 rfl rfl rfl rfl rfl rfl rfl ⟨rfl, rfl, rfl, rfl, rfl⟩ rfl rfl rfl rfl rfl (by kernel_rfl) Try.func3 (by kernel_rfl)
    (of_decide_eq_true (by kernel_rfl)) (by unfold Func.isWrapper; first | (rw [if_pos (by decide +kernel)]; kernel_rfl) | (rw [if_neg (by decide +kernel)]; exact ⟨rfl, rfl⟩))
    (fun os started H enc _ => lifted os started H enc)

theorem proved : Rows.FnExactSameObjectSaid := over

end Go.Proofs.Ytonjkdalkpccpaa.fnExactSameObject
