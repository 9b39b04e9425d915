/- 'FnExactCodeOfObject' of this seat, proved: for every input the law returns true and its arguments read as before. No condition. -/
import Derived.Test.YtemdjochphehjaaGreatRows
import Derived.WalkKit
import Derived.ProofKit
import Derived.OpenShut
import Derived.Test.YtemdjochphehjaaGreatQKM
import Derived.Test.YtemdjochphehjaaGreatQGW
namespace Go.Proofs.YtemdjochphehjaaGreat.fnExactCodeOfObject
open Go.ChangeShapes Go.WideShapes Go.ChangeAt Go.RowKit
set_option linter.unusedVariables false

theorem own : ownKnob Tryz.prog.godebug = none := by kernel_rfl
theorem laidOut : laidOutB Tryz.prog = true := by kernel_rfl

set_option maxRecDepth 100000 in
theorem lifted (os : Os) (started : os.Started) (H : Type) (enc : TypeId × Value → H) :
    ReturnsInHanded {} Tryz.checked os 8 .any (Rows.fnExactCodeOfObjectSpec.pre6 enc Tryz.prog Tryz.f8 Rows.fnExactCodeOfObjectRow.domain false) (Rows.fnExactCodeOfObjectSpec.post enc Tryz.prog Tryz.f8 false true false false) := by
  refine returnsInHanded_of_change (C := Tryz.checked) own started (by kernel_rfl) Tryz.func8
    (ChangeSpec.witness6 (enc := enc) (C := Tryz.checked) false ⟨#[], #[.agg #[.int .i64 0, .int .i64 0, .slice none 0 0]], []⟩ 8 (by kernel_rfl) (by kernel_rfl) (by kernel_rfl) (by kernel_rfl)) ?_
  intro W base args ds gs before hval0 hW hcnd _
  have hval : ∀ (j : Nat) t v, Tryz.f8.params[j]? = some t → args[j]? = some v → Value.okWide Tryz.prog W .any base t v := hval0
  have hW' := hW
  obtain ⟨p, q, hA0, hV, rfl, hfz, hnd⟩ := hW
  have hA : DataW.TrodAll enc Tryz.prog W 0 (fun _ => true) true Tryz.f8.params.toList args.toList ds p := hA0
  rw [Tryz.params8] at hA hval
  obtain ⟨v0, vs0, d0, ds0, p0, q0, hargs, rfl, rfl, h0, r0⟩ := trodAll_cons hA
  obtain ⟨rfl, rfl, rfl⟩ := trodAll_nil r0
  obtain rfl : args = #[v0] := by cases args; simp_all
  obtain ⟨rfl, rfl⟩ := trodVars_none hV
  have k0 := h0
  have lt0 : ∀ x ∈ p0, x.block < W.heap.size := by obtain ⟨m, hm⟩ := k0; exact DataW.trod_lt m _ _ _ hm
  obtain ⟨c00, c01, c02, y00, y01, y02, mm0, rfl, -, -, u00, u01, u02⟩ := Go.Joins.open_agg3 Tryz.underlying42 (by kernel_rfl) (by kernel_rfl) (hval 0 42 v0 rfl rfl) h0
  obtain ⟨k00, e00, -, -⟩ := DataW.trod_int Tryz.underlying2 u00
  obtain ⟨k01, e01, -, -⟩ := DataW.trod_int Tryz.underlying2 u01
  obtain rfl : c00 = .int .i64 k00 := by simpa using e00
  obtain rfl : c01 = .int .i64 k01 := by simpa using e01
  obtain ⟨A0, n0, cc0, z0, rfl, ln0, lc0, rr0⟩ := open_RR Tryz.underlying25 Tryz.underlying22 Tryz.underlying2 (by kernel_rfl) (by kernel_rfl) u02
  clear hA0 hval0
  refine (law_CodeOfObject k00 k01 A0 n0 cc0 z0 W rr0 ln0 lc0).mono fun e W' ⟨he, bel⟩ => ?_
  subst he
  exact ⟨_, rfl, _, _, _, [], _, [], hW', trodAll_mk1 (shut_bool Tryz.underlying4 _), (trodAll_cons_mk (Below.trod laidOut (by kernel_rfl) (of_decide_eq_true (by kernel_rfl)) k0 bel lt0) trodAll_mk0), rfl, bel.frame _, fun h => by cases h⟩

theorem over : Rows.fnExactCodeOfObjectRow.holds Tryz.pinned (OpenSpec.ofChange Rows.fnExactCodeOfObjectSpec) :=
  OpenClaim.holds_of_wide 8 Tryz.f8 rfl rfl rfl rfl rfl rfl rfl ⟨rfl, rfl, rfl, rfl, rfl⟩ rfl rfl rfl rfl rfl (by kernel_rfl) Tryz.func8 (by kernel_rfl)
    (of_decide_eq_true (by kernel_rfl)) (by unfold Func.isWrapper; first | (rw [if_pos (by decide +kernel)]; kernel_rfl) | (rw [if_neg (by decide +kernel)]; exact ⟨rfl, rfl⟩))
    (fun os started H enc _ => lifted os started H enc)

theorem proved : Rows.FnExactCodeOfObjectSaid := over

end Go.Proofs.YtemdjochphehjaaGreat.fnExactCodeOfObject
