/- 'FnExactEquivalentCodes' of this seat, proved: for every input the law returns true and its arguments read as before. No condition. -/
import Derived.Test.YtdkbcjdimhgmnaaGreatRows
import Derived.WalkKit
import Derived.ProofKit
import Derived.OpenShut
import Derived.Test.YtdkbcjdimhgmnaaGreatQKS
import Derived.Test.YtdkbcjdimhgmnaaGreatQGW
namespace Go.Proofs.YtdkbcjdimhgmnaaGreat.fnExactEquivalentCodes
open Go.ChangeShapes Go.WideShapes Go.ChangeAt Go.RowKit
set_option linter.unusedVariables false

theorem own : ownKnob Tryz.prog.godebug = none := by kernel_rfl
theorem laidOut : laidOutB Tryz.prog = true := by kernel_rfl

set_option maxRecDepth 100000 in
theorem lifted (os : Os) (started : os.Started) (H : Type) (enc : TypeId × Value → H) :
    ReturnsInHanded {} Tryz.checked os 3 .any (Rows.fnExactEquivalentCodesSpec.pre6 enc Tryz.prog Tryz.f3 Rows.fnExactEquivalentCodesRow.domain false) (Rows.fnExactEquivalentCodesSpec.post enc Tryz.prog Tryz.f3 false true false false) := by
  refine returnsInHanded_of_change (C := Tryz.checked) own started (by kernel_rfl) Tryz.func3
    (ChangeSpec.witness6 (enc := enc) (C := Tryz.checked) false ⟨#[], #[.agg #[.int .i64 0, .int .i64 0, .slice none 0 0, .slice none 0 0], .agg #[.int .i64 0, .int .i64 0, .slice none 0 0, .slice none 0 0], .int .i64 0], []⟩ 8 (by kernel_rfl) (by kernel_rfl) (by kernel_rfl) (by kernel_rfl)) ?_
  intro W base args ds gs before hval0 hW hcnd _
  have hval : ∀ (j : Nat) t v, Tryz.f3.params[j]? = some t → args[j]? = some v → Value.okWide Tryz.prog W .any base t v := hval0
  have hW' := hW
  obtain ⟨p, q, hA0, hV, rfl, hfz, hnd⟩ := hW
  have hA : DataW.TrodAll enc Tryz.prog W 0 (fun _ => true) true Tryz.f3.params.toList args.toList ds p := hA0
  rw [Tryz.params3] at hA hval
  obtain ⟨v0, vs0, d0, ds0, p0, q0, hargs, rfl, rfl, h0, r0⟩ := trodAll_cons hA
  obtain ⟨v1, vs1, d1, ds1, p1, q1, rfl, rfl, rfl, h1, r1⟩ := trodAll_cons r0
  obtain ⟨v2, vs2, d2, ds2, p2, q2, rfl, rfl, rfl, h2, r2⟩ := trodAll_cons r1
  obtain ⟨rfl, rfl, rfl⟩ := trodAll_nil r2
  obtain rfl : args = #[v0, v1, v2] := by cases args; simp_all
  obtain ⟨rfl, rfl⟩ := trodVars_none hV
  have k0 := h0
  have lt0 : ∀ x ∈ p0, x.block < W.heap.size := by obtain ⟨m, hm⟩ := k0; exact DataW.trod_lt m _ _ _ hm
  obtain ⟨c00, c01, c02, c03, y00, y01, y02, y03, mm0, nn0, rfl, -, -, u00, u01, u02, u03⟩ := open_nest Tryz.underlying27 Tryz.underlying24 (by kernel_rfl) (by kernel_rfl) (by kernel_rfl) (hval 0 27 v0 rfl rfl) h0
  obtain ⟨k00, e00, -, w00⟩ := DataW.trod_int Tryz.underlying2 u00
  obtain ⟨k01, e01, -, w01⟩ := DataW.trod_int Tryz.underlying2 u01
  obtain rfl : c00 = .int .i64 k00 := by simpa using e00
  obtain rfl : c01 = .int .i64 k01 := by simpa using e01
  obtain ⟨A0, n0, cc0, f0, rfl, ln0, lc0, ri0⟩ := open_RI Tryz.underlying22 Tryz.underlying2 (by kernel_rfl) u02
  obtain ⟨N0, j0, jc0, z0, rfl, lj0, lk0, rr0⟩ := open_RR Tryz.underlying25 Tryz.underlying22 Tryz.underlying2 (by kernel_rfl) (by kernel_rfl) u03
  have k1 := h1
  have lt1 : ∀ x ∈ p1, x.block < W.heap.size := by obtain ⟨m, hm⟩ := k1; exact DataW.trod_lt m _ _ _ hm
  obtain ⟨c10, c11, c12, c13, y10, y11, y12, y13, mm1, nn1, rfl, -, -, u10, u11, u12, u13⟩ := open_nest Tryz.underlying27 Tryz.underlying24 (by kernel_rfl) (by kernel_rfl) (by kernel_rfl) (hval 1 27 v1 rfl rfl) h1
  obtain ⟨k10, e10, -, w10⟩ := DataW.trod_int Tryz.underlying2 u10
  obtain ⟨k11, e11, -, w11⟩ := DataW.trod_int Tryz.underlying2 u11
  obtain rfl : c10 = .int .i64 k10 := by simpa using e10
  obtain rfl : c11 = .int .i64 k11 := by simpa using e11
  obtain ⟨A1, n1, cc1, f1, rfl, ln1, lc1, ri1⟩ := open_RI Tryz.underlying22 Tryz.underlying2 (by kernel_rfl) u12
  obtain ⟨N1, j1, jc1, z1, rfl, lj1, lk1, rr1⟩ := open_RR Tryz.underlying25 Tryz.underlying22 Tryz.underlying2 (by kernel_rfl) (by kernel_rfl) u13
  have k2 := h2
  have lt2 : ∀ x ∈ p2, x.block < W.heap.size := by obtain ⟨m, hm⟩ := k2; exact DataW.trod_lt m _ _ _ hm
  obtain ⟨a2, rfl, rfl, rfl, w2⟩ := open_int Tryz.underlying2 (hval 2 2 v2 rfl rfl) h2
  clear hA0 hval0
  refine (law_EquivalentCodes k00 k01 A0 n0 cc0 f0 N0 j0 jc0 z0 k10 k11 A1 n1 cc1 f1 N1 j1 jc1 z1 a2 W ⟨ri0, rr0⟩ (I64.of_wf w00) (I64.of_wf w01) (by omega) ⟨lj0, lk0⟩ ⟨ri1, rr1⟩ (I64.of_wf w10) (I64.of_wf w11) (by omega) ⟨lj1, lk1⟩ (I64.of_wf w2)).mono fun e W' ⟨he, bel⟩ => ?_
  subst he
  exact ⟨_, rfl, _, _, _, [], _, [], hW', trodAll_mk1 (shut_bool Tryz.underlying4 _), (trodAll_cons_mk (Below.trod laidOut (by kernel_rfl) (of_decide_eq_true (by kernel_rfl)) k0 bel lt0) (trodAll_cons_mk (Below.trod laidOut (by kernel_rfl) (of_decide_eq_true (by kernel_rfl)) k1 bel lt1) (trodAll_cons_mk (Below.trod laidOut (by kernel_rfl) (of_decide_eq_true (by kernel_rfl)) k2 bel lt2) trodAll_mk0))), rfl, bel.frame _, fun h => by cases h⟩

theorem over : Rows.fnExactEquivalentCodesRow.holds Tryz.pinned (OpenSpec.ofChange Rows.fnExactEquivalentCodesSpec) :=
  OpenClaim.holds_of_wide 3 Tryz.f3 rfl rfl rfl rfl rfl rfl rfl ⟨rfl, rfl, rfl, rfl, rfl⟩ rfl rfl rfl rfl rfl (by kernel_rfl) Tryz.func3 (by kernel_rfl)
    (of_decide_eq_true (by kernel_rfl)) (by unfold Func.isWrapper; first | (rw [if_pos (by decide +kernel)]; kernel_rfl) | (rw [if_neg (by decide +kernel)]; exact ⟨rfl, rfl⟩))
    (fun os started H enc _ => lifted os started H enc)

theorem proved : Rows.FnExactEquivalentCodesSaid := over

end Go.Proofs.YtdkbcjdimhgmnaaGreat.fnExactEquivalentCodes
