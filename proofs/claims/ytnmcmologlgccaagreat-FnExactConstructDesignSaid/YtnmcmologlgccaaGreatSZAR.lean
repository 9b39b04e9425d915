/- Products of elements of a field, on both sides. No condition beyond those stated. -/
import Derived.Test.YtnmcmologlgccaaGreatSZAQ
set_option linter.unusedVariables false
set_option linter.unusedSimpArgs false
namespace Go.Proofs.YtnmcmologlgccaaGreat
open Go.RowKit
theorem linF_set {z : List Int} {t : Nat} (ht : t < z.length) (v : Int) (ψ : Nat → Int) : linF (z.set t v) ψ = linF z ψ + (v - nth z t) * ψ t := by
  unfold linF
  rw [List.length_set]
  have h1 : ∀ i, nth (z.set t v) i * ψ i = nth z i * ψ i + (if i = t then (v - nth z t) * ψ t else 0) := fun i => by
    rw [nth_setI ht]
    by_cases e : i = t
    · subst e; rw [if_pos rfl, if_pos rfl]; exact (show ∀ X y z : Int, X * z = y * z + (X - y) * z from fun X y z => by rw [Int.sub_mul]; omega) _ _ _
    · rw [if_neg e, if_neg e, Int.add_zero]
  rw [sumN_congr fun i _ => h1 i, sumN_add, sumN_at ht]
structure ConvSt (p : Int) (k : Nat) (x y : List Int) (L i j : Nat) (z : List Int) : Prop where
  len : z.length = L
  dg : Dg p z
  lin : ∀ ψ : Nat → Int, Cg p (linF z ψ) ((sumN i fun a => sumN k fun b => nth x a * nth y b * ψ (a + b)) + sumN j fun b => nth x i * nth y b * ψ (i + b))
theorem ConvSt.start {p : Int} (h0 : 0 < p) (k : Nat) (x y : List Int) (L : Nat) : ConvSt p k x y L 0 0 (List.replicate L 0) := by
  have hz : ∀ t, nth (List.replicate L (0 : Int)) t = 0 := fun t => by
    unfold nth
    simp [List.getD, List.getElem?_replicate]
    split <;> rfl
  refine ⟨by simp, fun t => by rw [hz]; omega, fun ψ => Cg.of_eq ?_⟩
  rw [sumN, sumN]
  exact sumN_zero fun t _ => by rw [hz, Int.zero_mul]
theorem ConvSt.step {p : Int} (h0 : 0 < p) {k : Nat} {x y : List Int} {L i j : Nat} {z : List Int} (h : ConvSt p k x y L i j z) (hl : i + j < L) : ConvSt p k x y L i (j + 1) (z.set (i + j) ((nth z (i + j) + nth x i * nth y j) % p)) := by
  have ht : i + j < z.length := by rw [h.len]; exact hl
  refine ⟨by rw [List.length_set, h.len], fun t => ?_, fun ψ => ?_⟩
  · rw [nth_setI ht]
    split
    · exact ⟨Int.emod_nonneg _ (by omega), Int.emod_lt_of_pos _ h0⟩
    · exact h.dg t
  · rw [linF_set ht, sumN]
    have m : Cg p ((nth z (i + j) + nth x i * nth y j) % p - nth z (i + j)) (nth x i * nth y j) := by
      refine ((Cg.mod p _).sub (Cg.rfl_ p _)).trans (Cg.of_eq ?_)
      omega
    refine ((h.lin ψ).add (m.mul_right (ψ (i + j)))).trans (Cg.of_eq ?_)
    omega
theorem ConvSt.row {p : Int} {k : Nat} {x y : List Int} {L i : Nat} {z : List Int} (h : ConvSt p k x y L i k z) : ConvSt p k x y L (i + 1) 0 z :=
  ⟨h.len, h.dg, fun ψ => (h.lin ψ).trans (Cg.of_eq (by rw [sumN, sumN, Int.add_zero]))⟩
theorem ConvSt.done {p : Int} {k : Nat} {x y : List Int} {L : Nat} {z : List Int} (h : ConvSt p k x y L k 0 z) : ∀ ψ : Nat → Int, Cg p (linF z ψ) (sumN k fun a => sumN k fun b => nth x a * nth y b * ψ (a + b)) := fun ψ =>
  (h.lin ψ).trans (Cg.of_eq (by rw [sumN, Int.add_zero]))
theorem prod_step {v x y p : Int} (hp : 2 ≤ p) (hp2 : p ≤ 64) (hv : 0 ≤ v) (hv2 : v < p) (hx : 0 ≤ x) (hx2 : x < p) (hy : 0 ≤ y) (hy2 : y < p) :
    IntKind.i64.wrap (x * y) = x * y ∧ IntKind.i64.wrap (v + x * y) = v + x * y ∧ (v + x * y).tmod p = (v + x * y) % p ∧ 0 ≤ (v + x * y) % p ∧ (v + x * y) % p < p ∧ ¬ p = 0 := by
  obtain ⟨m1, m2⟩ := mul_bdF (a := x) (b := y) (x := 64) (y := 64) hx (by omega) hy (by omega)
  exact ⟨IntWalk.i64_in _ (by omega), IntWalk.i64_in _ (by omega), Int.tmod_eq_emod_of_nonneg (by omega), Int.emod_nonneg _ (by omega), Int.emod_lt_of_pos _ (by omega), by omega⟩
theorem apart_of {w2 w3 : World} {B2 : Nat} {e2 e3 : TypeId} {A2 A3 : Option Addr} {n2 c2 n3 c3 : Nat} {x y : List Int} {B3 : Nat} (h2 : OI w2 B2 e2 A2 n2 c2 x) (h3 : OI w3 B3 e3 A3 n3 c3 y) (hB : w2.heap.size ≤ B3) : blk A3 = none ∨ blk A3 ≠ blk A2 := by
  cases h : blk A3 with
  | none => exact .inl rfl
  | some g3 =>
    refine .inr fun e => ?_
    have h1 := (h3.os.lt h).1
    have h2 := (h2.os.lt e.symm).2
    omega
set_option maxRecDepth 100000 in
set_option maxHeartbeats 800000 in
theorem product_any (p : Int) (k : Nat) (A : Option Addr) (n c : Nat) (f : List Int) (a b : Int) (w : World) (hf : FldOk p k f) (hr : RI w A n f) (ha : 0 ≤ a ∧ a ≤ 64) (hb : 0 ≤ b ∧ b ≤ 64) :
    Calls Tryz.prog 145 #[.agg #[.int .i64 p, .int .i64 k, .slice A n c], .int .i64 a, .int .i64 b] w (fun e w' => e = .returned (.int .i64 (mulP p k f a b)) ∧ Below w.heap.size w w') := by
  obtain ⟨hp, hp2⟩ := PR_bd hf.pr
  have hk := (pow_le64 hp hf.k1 hf.q64).2
  have hk1 := hf.k1
  have HFl := Lib.hid hf
  have hnk : n = k + 1 := by rw [← hr.len, hf.len]
  have hn7 : n ≤ 7 := by omega
  have hn1 : 1 ≤ n := by omega
  have HNK := Lib.hid hnk
  have hb0 := below_alloc w (.cells #[.int .i64 p, .int .i64 k, .slice A n c] 135)
  have X := Blk.new w 135 #[.int .i64 p, .int .i64 k, .slice A n c]
  obtain ⟨a0, a1⟩ := ha
  obtain ⟨b0, b1⟩ := hb
  have hbd := hb0.trans (below_drewn' w.heap.size _ 1)
  have HX := Lib.hid (X.after (below_drewn _ 1))
  have HB := Lib.hid hbd
  clear hf hbd hnk
  go_enter Tryz.func145, Tryz.ntmps145
  obtain ⟨x0, x1, x2⟩ := X.cells3
  go_wp2
  clear x0 x1 x2 X hb0
  go_region_held_law (fun w' => w'.cell? ⟨w.heap.size, 0, none⟩ = some (.int .i64 p) ∧ w'.cell? ⟨w.heap.size, 1, none⟩ = some (.int .i64 k))
    (first | exact ⟨HX.out.cells3.1, HX.out.cells3.2.1⟩ | exact ⟨X2.cells3.1, X2.cells3.2.1⟩ | exact ⟨X3.cells3.1, X3.cells3.2.1⟩)
    ((first
      | (go_at_call_of 178 (Value.int .i64 a); refine (digitsOf_any a p k _ a0 (by omega) hp (by omega) (by omega)).mono ?_; rintro e w2 ⟨A2, n2, c2, rfl, ho2, hb2⟩; have X2 := HX.out.after hb2; have hw2 := HB.out.trans (hb2.mono HB.out.size))
      | (go_at_call_of 178 (Value.int .i64 b); refine (digitsOf_any b p k _ b0 (by omega) hp (by omega) (by omega)).mono ?_; rintro e w3 ⟨A3, n3, c3, rfl, ho3, hb3⟩; have X3 := X2.after hb3; have hw3 := hw2.trans (hb3.mono hw2.size))))
  have hzz : w.heap.size ≤ ((w.alloc (.cells #[.int .i64 p, .int .i64 k, .slice A n c] 135)).drewN 1).heap.size := HB.out.size
  obtain rfl : k = n2 := by rw [← ho2.len, digs_len]
  obtain rfl : k = n3 := by rw [← ho3.len, digs_len]
  have hap := apart_of ho2 ho3 (Nat.le_refl _)
  have ho2 := (ho2.below hb3).more hzz
  have ho3 := ho3.more hw2.size
  have hD2 := digs_dg (p := p) (by omega) a k
  have hD3 := digs_dg (p := p) (by omega) b k
  clear hw2 hb2 hb3 X2 HX HB hzz
  have HMul := Lib.hid (fun (z : List Int) (L : Nat) (hL : k ≤ L) (h : ConvSt p k (digsP a p k) (digsP b p k) L k 0 z) => show numR (remP p f z) p = mulP p k f a b from rem_mul HFl.out h.dg (by rw [h.len]; exact hL) h.done)
  generalize digsP a p k = x at *
  generalize digsP b p k = y at *
  have hmk := run_make_row' (P := Tryz.prog) 36 2 (.int .i64 0) 8 Tryz.underlying36 int_info rfl .i64 .i64 (2 * k) (by omega) (by omega)
  have e2k : ((2 * k : Nat) : Int) = 2 * (k : Int) := by omega
  rw [e2k] at hmk
  obtain ⟨x0, x1, x2⟩ := X3.cells3
  have hz0 := OI.made w3 w.heap.size 2 (2 * k) hw3.size (by omega)
  have hbz := below_alloc w3 (.cells (madeCells #[.int .i64 0] (2 * k)) 2)
  have hapx : blk A2 = none ∨ blk A2 ≠ some w3.heap.size := by
    cases h : blk A2 with
    | none => exact .inl rfl
    | some g2 => exact .inr fun e => by injection e with e; have := (ho2.os.lt h).2; omega
  have hapy : blk A3 = none ∨ blk A3 ≠ some w3.heap.size := by
    cases h : blk A3 with
    | none => exact .inl rfl
    | some g2 => exact .inr fun e => by injection e with e; have := (ho3.os.lt h).2; omega
  have ho2 := ho2.below hbz
  have ho3 := ho3.below hbz
  have X4 := X3.after hbz
  have hw4 := hw3.trans (hbz.mono hw3.size)
  have hC := ConvSt.start (p := p) (by omega) k x y (2 * k)
  generalize hzl : List.replicate (2 * k) (0 : Int) = z0 at *
  clear hzl e2k
  go_wp2
  have hgz : w.heap.size ≤ w3.heap.size := hw3.size
  generalize w3.heap.size = gz at *
  have hk2 : k ≤ 2 * k := by omega
  go_loopw [10, 11, 30, 35] (fun _ _ i _ wr => ∃ (u : Nat) (z : List Int), u ≤ k ∧ i = .int .i64 u ∧ ConvSt p k x y (2 * k) u 0 z ∧ OI wr w.heap.size 2 (some ⟨gz, 0, none⟩) (2 * k) (2 * k) z ∧ OI wr w.heap.size 2 A2 k c2 x ∧ OI wr w.heap.size 2 A3 k c3 y ∧ Blk wr w.heap.size 135 #[.int .i64 p, .int .i64 k, .slice A n c] ∧ Below w.heap.size w wr) (fun _ _ i _ _ => k - (intOf i).toNat)
  case atStart => exact ⟨0, _, Nat.zero_le _, rfl, hC, hz0, ho2, ho3, X4, hw4⟩
  case round =>
    clear hC hz0 ho2 ho3 X4 hw4 x0 x1 x2 X3 hw3 hbz
    obtain ⟨u, z, hu, rfl, hC, hz, ho2, ho3, X, hw⟩ := hrel
    by_cases hul : u < k
    · go_wp2
      obtain ⟨wo, rfl⟩ : ∃ wo : World, wo = wr := ⟨_, rfl⟩
      go_loopw [11, 35] (fun _ i wi => ∃ (v : Nat) (z : List Int), v ≤ k ∧ i = .int .i64 v ∧ ConvSt p k x y (2 * k) u v z ∧ OI wi w.heap.size 2 (some ⟨gz, 0, none⟩) (2 * k) (2 * k) z ∧ OI wi w.heap.size 2 A2 k c2 x ∧ OI wi w.heap.size 2 A3 k c3 y ∧ Blk wi w.heap.size 135 #[.int .i64 p, .int .i64 k, .slice A n c] ∧ Below w.heap.size w wi) (fun _ i _ => k - (intOf i).toNat)
      case atStart => exact ⟨0, z, Nat.zero_le _, rfl, hC, hz, ho2, ho3, X, hw⟩
      case round =>
        clear hC hz ho2 ho3 X hw
        obtain ⟨v, z, hv, rfl, hC, hz, ho2, ho3, X, hw⟩ := hrel
        by_cases hvl : v < k
        · have hw0 := hw.trans (below_drewn' _ wr 1)
          have hz0 := hz.below (below_drewn wr 1)
          have ho20 := ho2.below (below_drewn wr 1)
          have ho30 := ho3.below (below_drewn wr 1)
          have X0 := X.after (below_drewn wr 1)
          have huv : u + v < 2 * k := by omega
          obtain ⟨gz', hgz', cz, fz, iz⟩ := hz0.cell huv
          cases hgz'
          obtain ⟨gA, hA2, ca, fa, ia⟩ := ho20.cell hul
          obtain ⟨gB, hA3, cb, fb, ib⟩ := ho30.cell hvl
          obtain ⟨z0, z1⟩ := hC.dg (u + v)
          obtain ⟨xx0, xx1⟩ := hD2 u
          obtain ⟨y0, y1⟩ := hD3 v
          obtain ⟨q1, q2, q4, q5, q6, q7⟩ := prod_step (v := nth z (u + v)) (x := nth x u) (y := nth y v) hp (by omega) z0 z1 xx0 xx1 y0 y1
          have HC := Lib.hid (hC.step (by omega) huv)
          have hne : some w.heap.size ≠ blk (some ⟨gz, 0, none⟩ : Option Addr) := OS.typed' hz0.os X0 (by decide)
          have hneg : w.heap.size ≠ gz := fun e => hne (by simp [blk, e])
          have oz := hz0.set (u + v) (u := (nth z (u + v) + nth x u * nth y v) % p) ⟨by omega, by omega⟩
          have o2 := ho20.kept (grown_set (g := gz) (p := u + v) (u := .int .i64 ((nth z (u + v) + nth x u * nth y v) % p))) hapx
          have o3 := ho30.kept (grown_set (g := gz) (p := u + v) (u := .int .i64 ((nth z (u + v) + nth x u * nth y v) % p))) hapy
          have XN := X0.far (p := ⟨gz, u + v, none⟩) hneg (.int .i64 ((nth z (u + v) + nth x u * nth y v) % p))
          have hwN := hw0.setCell (p := ⟨gz, u + v, none⟩) hgz (.int .i64 ((nth z (u + v) + nth x u * nth y v) % p))
          have cp := X0.cells3.1
          have EI := Lib.hid (show (u : Int) + (v : Int) = ((u + v : Nat) : Int) by omega)
          subst hA2 hA3
          simp only [← World.drew_is_drewN] at cz fz ca cb cp oz o2 o3 XN hwN
          clear hz0 ho20 ho30 X0 hw0 hz ho2 ho3 X hw hC hne hneg q5 q6 ia ib iz fa fb
          generalize nth z (u + v) = zz at *
          generalize hat : u + v = at_ at *
          have ei : (u : Int) + (v : Int) = (at_ : Int) := EI.out
          have ew : IntKind.i64.wrap (at_ : Int) = (at_ : Int) := IntWalk.i64_in _ (by omega)
          have hatI : (at_ : Int) < 2 * (k : Int) := by omega
          clear hat EI
          generalize nth x u = xx at *
          generalize nth y v = yy at *
          go_wp2
          refine region_last (P := Tryz.prog) (S := fun w' => w'.cell? ⟨gz, at_, none⟩ = some (.int .i64 zz) ∧ w'.cell? ⟨gA, u, none⟩ = some (.int .i64 xx) ∧ w'.cell? ⟨gB, v, none⟩ = some (.int .i64 yy) ∧ w'.cell? ⟨w.heap.size, 0, none⟩ = some (.int .i64 p)) (by kernel_rfl) (by simp only [List.getLast?_cons_cons, List.getLast?_singleton]; rfl) (by dsimp only [List.dropLast]) (by kernel_rfl) ⟨cz, ca, cb, cp⟩ ?_
          intro hS
          refine wpAnyH_take (i := 0) (v := ?_) rfl (by kernel_rfl) (by kernel_rfl) (by kernel_rfl) (fun _ _ _ h => h) (Or.inl ⟨by rfl, ?_⟩) (by assumption) ?_
          rotate_left
          · (intro w hSw; (try dsimp only at hSw); go_simp; (try with_reducible rfl))
          simp only [Act.put, List.setIfInBounds_toArray, List.set_cons_zero, List.set_cons_succ]
          refine wpAnyH_take (i := 1) (v := ?_) rfl (by kernel_rfl) (by kernel_rfl) (by kernel_rfl) (fun _ _ _ h => h) (Or.inl ⟨by rfl, ?_⟩) (by assumption) ?_
          rotate_left
          · (intro w hSw; (try dsimp only at hSw); go_simp; (try with_reducible rfl))
          simp only [Act.put, List.setIfInBounds_toArray, List.set_cons_zero, List.set_cons_succ]
          refine wpAnyH_take (i := 2) (v := ?_) rfl (by kernel_rfl) (by kernel_rfl) (by kernel_rfl) (fun _ _ _ h => h) (Or.inl ⟨by rfl, ?_⟩) (by assumption) ?_
          rotate_left
          · (intro w hSw; (try dsimp only at hSw); go_simp; (try with_reducible rfl))
          simp only [Act.put, List.setIfInBounds_toArray, List.set_cons_zero, List.set_cons_succ]
          refine wpAnyH_take (i := 3) (v := ?_) rfl (by kernel_rfl) (by kernel_rfl) (by kernel_rfl) (fun _ _ _ h => h) (Or.inl ⟨by rfl, ?_⟩) (by assumption) ?_
          rotate_left
          · (intro w hSw; (try dsimp only at hSw); go_simp; (try with_reducible rfl))
          simp only [Act.put, List.setIfInBounds_toArray, List.set_cons_zero, List.set_cons_succ]
          refine wpAnyH_take (i := 4) (v := ?_) rfl (by kernel_rfl) (by kernel_rfl) (by kernel_rfl) (fun _ _ _ h => h) (Or.inl ⟨by rfl, ?_⟩) (by assumption) ?_
          rotate_left
          · (intro w hSw; (try dsimp only at hSw); go_simp; (try with_reducible rfl))
          simp only [Act.put, List.setIfInBounds_toArray, List.set_cons_zero, List.set_cons_succ]
          refine wpAnyH_take (i := 5) (v := ?_) rfl (by kernel_rfl) (by kernel_rfl) (by kernel_rfl) (fun _ _ _ h => h) (Or.inl ⟨by rfl, ?_⟩) (by assumption) ?_
          rotate_left
          · (intro w hSw; (try dsimp only at hSw); go_simp; (try with_reducible rfl))
          simp only [Act.put, List.setIfInBounds_toArray, List.set_cons_zero, List.set_cons_succ]
          refine wpAnyH_take (i := 6) (v := ?_) rfl (by kernel_rfl) (by kernel_rfl) (by kernel_rfl) (fun _ _ _ h => h) (Or.inl ⟨by rfl, ?_⟩) (by assumption) ?_
          rotate_left
          · (intro w hSw; (try dsimp only at hSw); go_simp; (try with_reducible rfl))
          simp only [Act.put, List.setIfInBounds_toArray, List.set_cons_zero, List.set_cons_succ]
          refine wpAnyH_take (i := 7) (v := ?_) rfl (by kernel_rfl) (by kernel_rfl) (by kernel_rfl) (fun _ _ _ h => h) (Or.inl ⟨by rfl, ?_⟩) (by assumption) ?_
          rotate_left
          · (intro w hSw; (try dsimp only at hSw); go_simp; (try with_reducible rfl))
          simp only [Act.put, List.setIfInBounds_toArray, List.set_cons_zero, List.set_cons_succ]
          refine wpAnyH_take (i := 8) (v := ?_) rfl (by kernel_rfl) (by kernel_rfl) (by kernel_rfl) (fun _ _ _ h => h) (Or.inl ⟨by rfl, ?_⟩) (by assumption) ?_
          rotate_left
          · (intro w hSw; (try dsimp only at hSw); go_simp; (try with_reducible rfl))
          simp only [Act.put, List.setIfInBounds_toArray, List.set_cons_zero, List.set_cons_succ]
          refine wpAnyH_take (i := 9) (v := ?_) rfl (by kernel_rfl) (by kernel_rfl) (by kernel_rfl) (fun _ _ _ h => h) (Or.inl ⟨by rfl, ?_⟩) (by assumption) ?_
          rotate_left
          · (intro w hSw; (try dsimp only at hSw); go_simp; (try with_reducible rfl))
          simp only [Act.put, List.setIfInBounds_toArray, List.set_cons_zero, List.set_cons_succ]
          refine wpAnyH_take (i := 10) (v := ?_) rfl (by kernel_rfl) (by kernel_rfl) (by kernel_rfl) (fun _ _ _ h => h) (Or.inl ⟨by rfl, ?_⟩) (by assumption) ?_
          rotate_left
          · (intro w hSw; (try dsimp only at hSw); go_simp; (try with_reducible rfl))
          simp only [Act.put, List.setIfInBounds_toArray, List.set_cons_zero, List.set_cons_succ]
          refine wpAnyH_take (i := 11) (v := ?_) rfl (by kernel_rfl) (by kernel_rfl) (by kernel_rfl) (fun _ _ _ h => h) (Or.inl ⟨by rfl, ?_⟩) (by assumption) ?_
          rotate_left
          · (intro w hSw; (try dsimp only at hSw); go_simp; (try with_reducible rfl))
          simp only [Act.put, List.setIfInBounds_toArray, List.set_cons_zero, List.set_cons_succ]
          refine wpAnyH_take (i := 12) (v := ?_) rfl (by kernel_rfl) (by kernel_rfl) (by kernel_rfl) (fun _ _ _ h => h) (Or.inl ⟨by rfl, ?_⟩) (by assumption) ?_
          rotate_left
          · (intro w hSw; (try dsimp only at hSw); go_simp; (try with_reducible rfl))
          simp only [Act.put, List.setIfInBounds_toArray, List.set_cons_zero, List.set_cons_succ]
          refine wpAnyH_take (i := 13) (v := ?_) rfl (by kernel_rfl) (by kernel_rfl) (by kernel_rfl) (fun _ _ _ h => h) (Or.inl ⟨by rfl, ?_⟩) (by assumption) ?_
          rotate_left
          · (intro w hSw; (try dsimp only at hSw); go_simp; (try with_reducible rfl))
          simp only [Act.put, List.setIfInBounds_toArray, List.set_cons_zero, List.set_cons_succ]
          refine wpAnyH_take (i := 14) (v := ?_) rfl (by kernel_rfl) (by kernel_rfl) (by kernel_rfl) (fun _ _ _ h => h) (Or.inl ⟨by rfl, ?_⟩) (by assumption) ?_
          rotate_left
          · (intro w hSw; (try dsimp only at hSw); go_simp; (try with_reducible rfl))
          simp only [Act.put, List.setIfInBounds_toArray, List.set_cons_zero, List.set_cons_succ]
          refine wpAnyH_take (i := 15) (v := ?_) rfl (by kernel_rfl) (by kernel_rfl) (by kernel_rfl) (fun _ _ _ h => h) (Or.inl ⟨by rfl, ?_⟩) (by assumption) ?_
          rotate_left
          · (intro w hSw; (try dsimp only at hSw); go_simp; (try with_reducible rfl))
          simp only [Act.put, List.setIfInBounds_toArray, List.set_cons_zero, List.set_cons_succ]
          refine wpAnyH_take (i := 16) (v := ?_) rfl (by kernel_rfl) (by kernel_rfl) (by kernel_rfl) (fun _ _ _ h => h) (Or.inl ⟨by rfl, ?_⟩) (by assumption) ?_
          rotate_left
          · (intro w hSw; (try dsimp only at hSw); go_simp; (try with_reducible rfl))
          simp only [Act.put, List.setIfInBounds_toArray, List.set_cons_zero, List.set_cons_succ]
          refine wpAnyH_take (i := 17) (v := ?_) rfl (by kernel_rfl) (by kernel_rfl) (by kernel_rfl) (fun _ _ _ h => h) (Or.inl ⟨by rfl, ?_⟩) (by assumption) ?_
          rotate_left
          · (intro w hSw; (try dsimp only at hSw); go_simp; (try with_reducible rfl))
          simp only [Act.put, List.setIfInBounds_toArray, List.set_cons_zero, List.set_cons_succ]
          refine wpAnyH_take (i := 18) (v := ?_) rfl (by kernel_rfl) (by kernel_rfl) (by kernel_rfl) (fun _ _ _ h => h) (Or.inl ⟨by rfl, ?_⟩) (by assumption) ?_
          rotate_left
          · (intro w hSw; (try dsimp only at hSw); go_simp; (try with_reducible rfl))
          simp only [Act.put, List.setIfInBounds_toArray, List.set_cons_zero, List.set_cons_succ]
          refine wpAnyH_take (i := 19) (v := ?_) rfl (by kernel_rfl) (by kernel_rfl) (by kernel_rfl) (fun _ _ _ h => h) (Or.inl ⟨by rfl, ?_⟩) (by assumption) ?_
          rotate_left
          · (intro w hSw; (try dsimp only at hSw); go_simp; (try with_reducible rfl))
          simp only [Act.put, List.setIfInBounds_toArray, List.set_cons_zero, List.set_cons_succ]
          refine wpAnyH_take (i := 20) (v := ?_) rfl (by kernel_rfl) (by kernel_rfl) (by kernel_rfl) (fun _ _ _ h => h) (Or.inl ⟨by rfl, ?_⟩) (by assumption) ?_
          rotate_left
          · (intro w hSw; (try dsimp only at hSw); go_simp; (try with_reducible rfl))
          simp only [Act.put, List.setIfInBounds_toArray, List.set_cons_zero, List.set_cons_succ]
          refine wpAnyH_take (i := 21) (v := ?_) rfl (by kernel_rfl) (by kernel_rfl) (by kernel_rfl) (fun _ _ _ h => h) (Or.inl ⟨by rfl, ?_⟩) (by assumption) ?_
          rotate_left
          · (intro w hSw; (try dsimp only at hSw); go_simp; (try with_reducible rfl))
          simp only [Act.put, List.setIfInBounds_toArray, List.set_cons_zero, List.set_cons_succ]
          refine wpAnyH_take (i := 22) (v := ?_) rfl (by kernel_rfl) (by kernel_rfl) (by kernel_rfl) (fun _ _ _ h => h) (Or.inl ⟨by rfl, ?_⟩) (by assumption) ?_
          rotate_left
          · (intro w hSw; (try dsimp only at hSw); go_simp; (try with_reducible rfl))
          simp only [Act.put, List.setIfInBounds_toArray, List.set_cons_zero, List.set_cons_succ]
          refine wpAnyH_take (i := 23) (v := ?_) rfl (by kernel_rfl) (by kernel_rfl) (by kernel_rfl) (fun _ _ _ h => h) (Or.inl ⟨by rfl, ?_⟩) (by assumption) ?_
          rotate_left
          · (intro w hSw; (try dsimp only at hSw); go_simp; (try with_reducible rfl))
          simp only [Act.put, List.setIfInBounds_toArray, List.set_cons_zero, List.set_cons_succ]
          simp only [List.getElem_toArray, List.getElem_cons_succ, List.getElem_cons_zero]
          refine wpAnyH_done (by kernel_rfl) ?_ _
          dsimp only [atEnd]
          clear hS q1 q2 q4 q7 ew
          generalize wr.drew = W at *
          go_wp2
          go_roundw
          case rel => exact ⟨v + 1, _, by omega, by go_num, HC.out, oz, o2, o3, XN, hwN⟩
          case measure => simp [intOf]; omega
        · obtain rfl : k = v := by omega
          have hC2 := hC.row
          go_wp2
          go_roundw
          case rel => exact ⟨u + 1, z, by omega, by go_num, hC2, hz, ho2, ho3, X, hw⟩
          case measure => simp [intOf]; omega
    · obtain rfl : k = u := by omega
      have HR := Lib.hid (HMul.out z (2 * k) hk2 hC)
      have hDz := hC.dg
      have HLR := Lib.hid (remP_len HFl.out (z := z) (by rw [hC.len]; exact hk2))
      have hw1 := hw.trans (below_drewn' _ wr 1)
      have HX := Lib.hid (X.after (below_drewn wr 1))
      have hz1 := hz.below (below_drewn wr 1)
      have hrm := remainder_any (some ⟨gz, 0, none⟩) (2 * k) (2 * k) z A n c f p (wr.drewN 1) hz1.reads (hr.keep hw1) hDz HFl.out.dg hp (by omega) (by omega) (by omega) (by omega) hn1
      have hmin : min (n - 1) (2 * k) ≤ 7 := by omega
      have HLK := Lib.hid (show ∀ L : Nat, L = k → p ^ L ≤ 1000000 from fun L e => by subst e; have := HFl.out.q64; omega)
      obtain ⟨x0, x1, x2⟩ := X.cells3
      clear hz1 hC ho2 ho3 hz hDz
      go_wp2
      clear x0 x1 x2 X
      go_region_held_law (fun w' => w'.cell? ⟨w.heap.size, 0, none⟩ = some (.int .i64 p) ∧ w'.cell? ⟨w.heap.size, 2, none⟩ = some (.slice A n c))
        (first | exact ⟨HX.out.cells3.1, HX.out.cells3.2.2⟩ | exact ⟨X5.cells3.1, X5.cells3.2.2⟩)
        ((first
          | (go_at_call 180; refine hrm.mono ?_; rintro e w5 ⟨A5, c5, rfl, ho5, hb5, hD5⟩; have X5 := HX.out.after hb5; have hw5 := hw1.trans (hb5.mono hw1.size))
          | (go_at_call 179; refine (numberOf_any A5 (min (n - 1) (2 * k)) c5 _ p _ ho5.reads hD5 hp (by omega) (HLK.out _ HLR.out) (by omega)).mono ?_; rintro e w6 ⟨rfl, rfl⟩)))
      all_goals
        go_wp2
        go_ret
        exact ⟨by rw [HR.out]; rfl, hw5⟩
set_option maxRecDepth 100000 in
set_option maxHeartbeats 800000 in
theorem l03Mul_any (g : Nat) (p : Int) (k : Nat) (A : Option Addr) (n c : Nat) (f : List Int) (a b : Int) (w : World) (h : FAt w g p k A n c f) (hf : FldOk p k f) (ha : 0 ≤ a ∧ a ≤ 64) (hb : 0 ≤ b ∧ b ≤ 64) :
    Calls Tryz.prog 165 #[.pointer (some ⟨g, 0, none⟩), .int .i64 a, .int .i64 b] w (fun e w' => e = .returned (.int .i64 (mulP p k f a b)) ∧ Below w.heap.size w w') := by
  obtain ⟨hp, hp2⟩ := PR_bd hf.pr
  have hk := (pow_le64 hp hf.k1 hf.q64).2
  have hk1 := hf.k1
  have HFl := Lib.hid hf
  have hr := h.ri
  have hnk : n = k + 1 := by rw [← hr.len, hf.len]
  have hn7 : n ≤ 7 := by omega
  have hn1 : 1 ≤ n := by omega
  have HNK := Lib.hid hnk
  obtain ⟨a0, a1⟩ := ha
  obtain ⟨b0, b1⟩ := hb
  have H := Lib.hid h
  have HF1 := Lib.hid (h.keep (below_drewn w 1))
  have x0 := h.c0
  have x1 := h.c1
  clear hf hnk h
  go_enter Tryz.func165, Tryz.ntmps165
  go_wp2
  clear x0 x1
  go_region_held_law (fun w' => w'.cell? ⟨g, 0, none⟩ = some (.int .i64 p) ∧ w'.cell? ⟨g, 1, none⟩ = some (.int .i64 k))
    (first | exact ⟨HF1.out.c0, HF1.out.c1⟩ | exact ⟨HF2.out.c0, HF2.out.c1⟩)
    ((go_at_call 193; refine (l03Digits_any a p k _ a0 (by omega) hp (by omega) (by omega)).mono ?_; rintro e w2 ⟨A2, n2, c2, rfl, ho2, hb2⟩; have HF2 := Lib.hid (HF1.out.keep hb2)))
  have hw2 := (below_drewn w 1).trans (hb2.mono (Nat.le_refl _))
  have hzz : w.heap.size ≤ (w.drewN 1).heap.size := Nat.le_refl _
  obtain rfl : k = n2 := by rw [← ho2.len, digs_len]
  have HF3 := Lib.hid (HF2.out.keep (below_drewn w2 1))
  have x0 := HF2.out.c0
  have x1 := HF2.out.c1
  have ho2 := (ho2.below (below_drewn w2 1)).more hzz
  clear hb2
  go_wp2
  clear x0 x1
  go_region_held_law (fun w' => w'.cell? ⟨g, 0, none⟩ = some (.int .i64 p) ∧ w'.cell? ⟨g, 1, none⟩ = some (.int .i64 k))
    (first | exact ⟨HF3.out.c0, HF3.out.c1⟩ | exact ⟨HF4.out.c0, HF4.out.c1⟩)
    ((go_at_call 193; refine (l03Digits_any b p k _ b0 (by omega) hp (by omega) (by omega)).mono ?_; rintro e w3 ⟨A3, n3, c3, rfl, ho3, hb3⟩; have HF4 := Lib.hid (HF3.out.keep hb3)))
  have hw3 := (hw2.trans (below_drewn' _ w2 1)).trans (hb3.mono hw2.size)
  obtain rfl : k = n3 := by rw [← ho3.len, digs_len]
  have hap := apart_of ho2 ho3 (Nat.le_refl _)
  have ho2 := ho2.below hb3
  have ho3 := ho3.more (show w.heap.size ≤ (w2.drewN 1).heap.size from hw2.size)
  have hD2 := digs_dg (p := p) (by omega) a k
  have hD3 := digs_dg (p := p) (by omega) b k
  have x0 := HF4.out.c0
  have x1 := HF4.out.c1
  have x2 := HF4.out.c2
  clear hw2 hb3 hzz HF1 HF2 HF3
  have HMul := Lib.hid (fun (z : List Int) (L : Nat) (hL : k ≤ L) (h : ConvSt p k (digsP a p k) (digsP b p k) L k 0 z) => show numR (remP p f z) p = mulP p k f a b from rem_mul HFl.out h.dg (by rw [h.len]; exact hL) h.done)
  generalize digsP a p k = x at *
  generalize digsP b p k = y at *
  obtain ⟨L, hL⟩ : ∃ L : Nat, L = 2 * k - 1 := ⟨_, rfl⟩
  have hmk := run_make_row' (P := Tryz.prog) 36 2 (.int .i64 0) 8 Tryz.underlying36 int_info rfl .i64 .i64 L (by omega) (by omega)
  have e2k : (L : Int) = 2 * (k : Int) - 1 := by omega
  rw [e2k] at hmk
  have hz0 := OI.made w3 w.heap.size 2 L hw3.size (by omega)
  have hbz := below_alloc w3 (.cells (madeCells #[.int .i64 0] L) 2)
  have hapx : blk A2 = none ∨ blk A2 ≠ some w3.heap.size := by
    cases h : blk A2 with
    | none => exact .inl rfl
    | some g2 => exact .inr fun e => by injection e with e; have := (ho2.os.lt h).2; omega
  have hapy : blk A3 = none ∨ blk A3 ≠ some w3.heap.size := by
    cases h : blk A3 with
    | none => exact .inl rfl
    | some g2 => exact .inr fun e => by injection e with e; have := (ho3.os.lt h).2; omega
  have ho2 := ho2.below hbz
  have ho3 := ho3.below hbz
  have hw4 := hw3.trans (hbz.mono hw3.size)
  have hC := ConvSt.start (p := p) (by omega) k x y L
  generalize hzl : List.replicate L (0 : Int) = z0 at *
  have hLk : k ≤ L := by omega
  have hLu : ∀ u v : Nat, u < k → v < k → u + v < L := fun u v h1 h2 => by omega
  have HLU := Lib.hid hLu
  have hL12 : L ≤ 12 := by omega
  clear hzl e2k hL hLu
  go_wp2
  have hgz : w.heap.size ≤ w3.heap.size := hw3.size
  generalize w3.heap.size = gz at *
  go_loopw [10, 11] (fun i _ wr => ∃ (u : Nat) (z : List Int), u ≤ k ∧ i = .int .i64 u ∧ ConvSt p k x y L u 0 z ∧ OI wr w.heap.size 2 (some ⟨gz, 0, none⟩) L L z ∧ OI wr w.heap.size 2 A2 k c2 x ∧ OI wr w.heap.size 2 A3 k c3 y ∧ Below w.heap.size w wr) (fun i _ _ => k - (intOf i).toNat)
  case atStart => exact ⟨0, _, Nat.zero_le _, rfl, hC, hz0, ho2, ho3, hw4⟩
  case round =>
    clear hC hz0 ho2 ho3 hw4 x0 x1 x2 hw3 hbz HF4
    obtain ⟨u, z, hu, rfl, hC, hz, ho2, ho3, hw⟩ := hrel
    by_cases hul : u < k
    · go_wp2
      obtain ⟨wo, rfl⟩ : ∃ wo : World, wo = wr := ⟨_, rfl⟩
      go_loopw [11] (fun i wi => ∃ (v : Nat) (z : List Int), v ≤ k ∧ i = .int .i64 v ∧ ConvSt p k x y L u v z ∧ OI wi w.heap.size 2 (some ⟨gz, 0, none⟩) L L z ∧ OI wi w.heap.size 2 A2 k c2 x ∧ OI wi w.heap.size 2 A3 k c3 y ∧ Below w.heap.size w wi) (fun i _ => k - (intOf i).toNat)
      case atStart => exact ⟨0, z, Nat.zero_le _, rfl, hC, hz, ho2, ho3, hw⟩
      case round =>
        clear hC hz ho2 ho3 hw
        obtain ⟨v, z, hv, rfl, hC, hz, ho2, ho3, hw⟩ := hrel
        by_cases hvl : v < k
        · have hw0 := hw.trans (below_drewn' _ wr 1)
          have hz0 := hz.below (below_drewn wr 1)
          have ho20 := ho2.below (below_drewn wr 1)
          have ho30 := ho3.below (below_drewn wr 1)
          have X0 := H.out.keep hw0
          have huv : u + v < L := HLU.out u v hul hvl
          obtain ⟨gz', hgz', cz, fz, iz⟩ := hz0.cell huv
          cases hgz'
          obtain ⟨gA, hA2, ca, fa, ia⟩ := ho20.cell hul
          obtain ⟨gB, hA3, cb, fb, ib⟩ := ho30.cell hvl
          obtain ⟨z0, z1⟩ := hC.dg (u + v)
          obtain ⟨xx0, xx1⟩ := hD2 u
          obtain ⟨y0, y1⟩ := hD3 v
          obtain ⟨q1, q2, q4, q5, q6, q7⟩ := prod_step (v := nth z (u + v)) (x := nth x u) (y := nth y v) hp (by omega) z0 z1 xx0 xx1 y0 y1
          have HC := Lib.hid (hC.step (by omega) huv)
          have oz := hz0.set (u + v) (u := (nth z (u + v) + nth x u * nth y v) % p) ⟨by omega, by omega⟩
          have o2 := ho20.kept (grown_set (g := gz) (p := u + v) (u := .int .i64 ((nth z (u + v) + nth x u * nth y v) % p))) hapx
          have o3 := ho30.kept (grown_set (g := gz) (p := u + v) (u := .int .i64 ((nth z (u + v) + nth x u * nth y v) % p))) hapy
          have hwN := hw0.setCell (p := ⟨gz, u + v, none⟩) hgz (.int .i64 ((nth z (u + v) + nth x u * nth y v) % p))
          have cp := X0.c0
          have EI := Lib.hid (show (u : Int) + (v : Int) = ((u + v : Nat) : Int) by omega)
          subst hA2 hA3
          simp only [← World.drew_is_drewN] at cz fz ca cb cp oz o2 o3 hwN
          clear hz0 ho20 ho30 X0 hw0 hz ho2 ho3 hw hC q5 q6 ia ib iz fa fb
          generalize nth z (u + v) = zz at *
          generalize hat : u + v = at_ at *
          have ei : (u : Int) + (v : Int) = (at_ : Int) := EI.out
          have ew : IntKind.i64.wrap (at_ : Int) = (at_ : Int) := IntWalk.i64_in _ (by omega)
          have hatI : (at_ : Int) < (L : Int) := by omega
          clear hat EI
          generalize nth x u = xx at *
          generalize nth y v = yy at *
          go_wp2
          refine region_last (P := Tryz.prog) (S := fun w' => w'.cell? ⟨gz, at_, none⟩ = some (.int .i64 zz) ∧ w'.cell? ⟨gA, u, none⟩ = some (.int .i64 xx) ∧ w'.cell? ⟨gB, v, none⟩ = some (.int .i64 yy) ∧ w'.cell? ⟨g, 0, none⟩ = some (.int .i64 p)) (by kernel_rfl) (by simp only [List.getLast?_cons_cons, List.getLast?_singleton]; rfl) (by dsimp only [List.dropLast]) (by kernel_rfl) ⟨cz, ca, cb, cp⟩ ?_
          intro hS
          refine wpAnyH_take (i := 0) (v := ?_) rfl (by kernel_rfl) (by kernel_rfl) (by kernel_rfl) (fun _ _ _ h => h) (Or.inl ⟨by rfl, ?_⟩) (by assumption) ?_
          rotate_left
          · (intro w hSw; (try dsimp only at hSw); go_simp; (try with_reducible rfl))
          simp only [Act.put, List.setIfInBounds_toArray, List.set_cons_zero, List.set_cons_succ]
          refine wpAnyH_take (i := 1) (v := ?_) rfl (by kernel_rfl) (by kernel_rfl) (by kernel_rfl) (fun _ _ _ h => h) (Or.inl ⟨by rfl, ?_⟩) (by assumption) ?_
          rotate_left
          · (intro w hSw; (try dsimp only at hSw); go_simp; (try with_reducible rfl))
          simp only [Act.put, List.setIfInBounds_toArray, List.set_cons_zero, List.set_cons_succ]
          refine wpAnyH_take (i := 2) (v := ?_) rfl (by kernel_rfl) (by kernel_rfl) (by kernel_rfl) (fun _ _ _ h => h) (Or.inl ⟨by rfl, ?_⟩) (by assumption) ?_
          rotate_left
          · (intro w hSw; (try dsimp only at hSw); go_simp; (try with_reducible rfl))
          simp only [Act.put, List.setIfInBounds_toArray, List.set_cons_zero, List.set_cons_succ]
          refine wpAnyH_take (i := 3) (v := ?_) rfl (by kernel_rfl) (by kernel_rfl) (by kernel_rfl) (fun _ _ _ h => h) (Or.inl ⟨by rfl, ?_⟩) (by assumption) ?_
          rotate_left
          · (intro w hSw; (try dsimp only at hSw); go_simp; (try with_reducible rfl))
          simp only [Act.put, List.setIfInBounds_toArray, List.set_cons_zero, List.set_cons_succ]
          refine wpAnyH_take (i := 4) (v := ?_) rfl (by kernel_rfl) (by kernel_rfl) (by kernel_rfl) (fun _ _ _ h => h) (Or.inl ⟨by rfl, ?_⟩) (by assumption) ?_
          rotate_left
          · (intro w hSw; (try dsimp only at hSw); go_simp; (try with_reducible rfl))
          simp only [Act.put, List.setIfInBounds_toArray, List.set_cons_zero, List.set_cons_succ]
          refine wpAnyH_take (i := 5) (v := ?_) rfl (by kernel_rfl) (by kernel_rfl) (by kernel_rfl) (fun _ _ _ h => h) (Or.inl ⟨by rfl, ?_⟩) (by assumption) ?_
          rotate_left
          · (intro w hSw; (try dsimp only at hSw); go_simp; (try with_reducible rfl))
          simp only [Act.put, List.setIfInBounds_toArray, List.set_cons_zero, List.set_cons_succ]
          refine wpAnyH_take (i := 6) (v := ?_) rfl (by kernel_rfl) (by kernel_rfl) (by kernel_rfl) (fun _ _ _ h => h) (Or.inl ⟨by rfl, ?_⟩) (by assumption) ?_
          rotate_left
          · (intro w hSw; (try dsimp only at hSw); go_simp; (try with_reducible rfl))
          simp only [Act.put, List.setIfInBounds_toArray, List.set_cons_zero, List.set_cons_succ]
          refine wpAnyH_take (i := 7) (v := ?_) rfl (by kernel_rfl) (by kernel_rfl) (by kernel_rfl) (fun _ _ _ h => h) (Or.inl ⟨by rfl, ?_⟩) (by assumption) ?_
          rotate_left
          · (intro w hSw; (try dsimp only at hSw); go_simp; (try with_reducible rfl))
          simp only [Act.put, List.setIfInBounds_toArray, List.set_cons_zero, List.set_cons_succ]
          refine wpAnyH_take (i := 8) (v := ?_) rfl (by kernel_rfl) (by kernel_rfl) (by kernel_rfl) (fun _ _ _ h => h) (Or.inl ⟨by rfl, ?_⟩) (by assumption) ?_
          rotate_left
          · (intro w hSw; (try dsimp only at hSw); go_simp; (try with_reducible rfl))
          simp only [Act.put, List.setIfInBounds_toArray, List.set_cons_zero, List.set_cons_succ]
          refine wpAnyH_take (i := 9) (v := ?_) rfl (by kernel_rfl) (by kernel_rfl) (by kernel_rfl) (fun _ _ _ h => h) (Or.inl ⟨by rfl, ?_⟩) (by assumption) ?_
          rotate_left
          · (intro w hSw; (try dsimp only at hSw); go_simp; (try with_reducible rfl))
          simp only [Act.put, List.setIfInBounds_toArray, List.set_cons_zero, List.set_cons_succ]
          refine wpAnyH_take (i := 10) (v := ?_) rfl (by kernel_rfl) (by kernel_rfl) (by kernel_rfl) (fun _ _ _ h => h) (Or.inl ⟨by rfl, ?_⟩) (by assumption) ?_
          rotate_left
          · (intro w hSw; (try dsimp only at hSw); go_simp; (try with_reducible rfl))
          simp only [Act.put, List.setIfInBounds_toArray, List.set_cons_zero, List.set_cons_succ]
          refine wpAnyH_take (i := 11) (v := ?_) rfl (by kernel_rfl) (by kernel_rfl) (by kernel_rfl) (fun _ _ _ h => h) (Or.inl ⟨by rfl, ?_⟩) (by assumption) ?_
          rotate_left
          · (intro w hSw; (try dsimp only at hSw); go_simp; (try with_reducible rfl))
          simp only [Act.put, List.setIfInBounds_toArray, List.set_cons_zero, List.set_cons_succ]
          refine wpAnyH_take (i := 12) (v := ?_) rfl (by kernel_rfl) (by kernel_rfl) (by kernel_rfl) (fun _ _ _ h => h) (Or.inl ⟨by rfl, ?_⟩) (by assumption) ?_
          rotate_left
          · (intro w hSw; (try dsimp only at hSw); go_simp; (try with_reducible rfl))
          simp only [Act.put, List.setIfInBounds_toArray, List.set_cons_zero, List.set_cons_succ]
          refine wpAnyH_take (i := 13) (v := ?_) rfl (by kernel_rfl) (by kernel_rfl) (by kernel_rfl) (fun _ _ _ h => h) (Or.inl ⟨by rfl, ?_⟩) (by assumption) ?_
          rotate_left
          · (intro w hSw; (try dsimp only at hSw); go_simp; (try with_reducible rfl))
          simp only [Act.put, List.setIfInBounds_toArray, List.set_cons_zero, List.set_cons_succ]
          refine wpAnyH_take (i := 14) (v := ?_) rfl (by kernel_rfl) (by kernel_rfl) (by kernel_rfl) (fun _ _ _ h => h) (Or.inl ⟨by rfl, ?_⟩) (by assumption) ?_
          rotate_left
          · (intro w hSw; (try dsimp only at hSw); go_simp; (try with_reducible rfl))
          simp only [Act.put, List.setIfInBounds_toArray, List.set_cons_zero, List.set_cons_succ]
          refine wpAnyH_take (i := 15) (v := ?_) rfl (by kernel_rfl) (by kernel_rfl) (by kernel_rfl) (fun _ _ _ h => h) (Or.inl ⟨by rfl, ?_⟩) (by assumption) ?_
          rotate_left
          · (intro w hSw; (try dsimp only at hSw); go_simp; (try with_reducible rfl))
          simp only [Act.put, List.setIfInBounds_toArray, List.set_cons_zero, List.set_cons_succ]
          refine wpAnyH_take (i := 16) (v := ?_) rfl (by kernel_rfl) (by kernel_rfl) (by kernel_rfl) (fun _ _ _ h => h) (Or.inl ⟨by rfl, ?_⟩) (by assumption) ?_
          rotate_left
          · (intro w hSw; (try dsimp only at hSw); go_simp; (try with_reducible rfl))
          simp only [Act.put, List.setIfInBounds_toArray, List.set_cons_zero, List.set_cons_succ]
          refine wpAnyH_take (i := 17) (v := ?_) rfl (by kernel_rfl) (by kernel_rfl) (by kernel_rfl) (fun _ _ _ h => h) (Or.inl ⟨by rfl, ?_⟩) (by assumption) ?_
          rotate_left
          · (intro w hSw; (try dsimp only at hSw); go_simp; (try with_reducible rfl))
          simp only [Act.put, List.setIfInBounds_toArray, List.set_cons_zero, List.set_cons_succ]
          refine wpAnyH_take (i := 18) (v := ?_) rfl (by kernel_rfl) (by kernel_rfl) (by kernel_rfl) (fun _ _ _ h => h) (Or.inl ⟨by rfl, ?_⟩) (by assumption) ?_
          rotate_left
          · (intro w hSw; (try dsimp only at hSw); go_simp; (try with_reducible rfl))
          simp only [Act.put, List.setIfInBounds_toArray, List.set_cons_zero, List.set_cons_succ]
          refine wpAnyH_take (i := 19) (v := ?_) rfl (by kernel_rfl) (by kernel_rfl) (by kernel_rfl) (fun _ _ _ h => h) (Or.inl ⟨by rfl, ?_⟩) (by assumption) ?_
          rotate_left
          · (intro w hSw; (try dsimp only at hSw); go_simp; (try with_reducible rfl))
          simp only [Act.put, List.setIfInBounds_toArray, List.set_cons_zero, List.set_cons_succ]
          refine wpAnyH_take (i := 20) (v := ?_) rfl (by kernel_rfl) (by kernel_rfl) (by kernel_rfl) (fun _ _ _ h => h) (Or.inl ⟨by rfl, ?_⟩) (by assumption) ?_
          rotate_left
          · (intro w hSw; (try dsimp only at hSw); go_simp; (try with_reducible rfl))
          simp only [Act.put, List.setIfInBounds_toArray, List.set_cons_zero, List.set_cons_succ]
          refine wpAnyH_take (i := 21) (v := ?_) rfl (by kernel_rfl) (by kernel_rfl) (by kernel_rfl) (fun _ _ _ h => h) (Or.inl ⟨by rfl, ?_⟩) (by assumption) ?_
          rotate_left
          · (intro w hSw; (try dsimp only at hSw); go_simp; (try with_reducible rfl))
          simp only [Act.put, List.setIfInBounds_toArray, List.set_cons_zero, List.set_cons_succ]
          refine wpAnyH_take (i := 22) (v := ?_) rfl (by kernel_rfl) (by kernel_rfl) (by kernel_rfl) (fun _ _ _ h => h) (Or.inl ⟨by rfl, ?_⟩) (by assumption) ?_
          rotate_left
          · (intro w hSw; (try dsimp only at hSw); go_simp; (try with_reducible rfl))
          simp only [Act.put, List.setIfInBounds_toArray, List.set_cons_zero, List.set_cons_succ]
          refine wpAnyH_take (i := 23) (v := ?_) rfl (by kernel_rfl) (by kernel_rfl) (by kernel_rfl) (fun _ _ _ h => h) (Or.inl ⟨by rfl, ?_⟩) (by assumption) ?_
          rotate_left
          · (intro w hSw; (try dsimp only at hSw); go_simp; (try with_reducible rfl))
          simp only [Act.put, List.setIfInBounds_toArray, List.set_cons_zero, List.set_cons_succ]
          refine wpAnyH_take (i := 24) (v := ?_) rfl (by kernel_rfl) (by kernel_rfl) (by kernel_rfl) (fun _ _ _ h => h) (Or.inl ⟨by rfl, ?_⟩) (by assumption) ?_
          rotate_left
          · (intro w hSw; (try dsimp only at hSw); go_simp; (try with_reducible rfl))
          simp only [Act.put, List.setIfInBounds_toArray, List.set_cons_zero, List.set_cons_succ]
          refine wpAnyH_take (i := 25) (v := ?_) rfl (by kernel_rfl) (by kernel_rfl) (by kernel_rfl) (fun _ _ _ h => h) (Or.inl ⟨by rfl, ?_⟩) (by assumption) ?_
          rotate_left
          · (intro w hSw; (try dsimp only at hSw); go_simp; (try with_reducible rfl))
          simp only [Act.put, List.setIfInBounds_toArray, List.set_cons_zero, List.set_cons_succ]
          simp only [List.getElem_toArray, List.getElem_cons_succ, List.getElem_cons_zero]
          refine wpAnyH_done (by kernel_rfl) ?_ _
          dsimp only [atEnd]
          clear hS q1 q2 q4 q7 ew
          generalize wr.drew = W at *
          go_wp2
          go_roundw
          case rel => exact ⟨v + 1, _, by omega, by go_num, HC.out, oz, o2, o3, hwN⟩
          case measure => simp [intOf]; omega
        · obtain rfl : k = v := by omega
          have hC2 := hC.row
          go_wp2
          go_roundw
          case rel => exact ⟨u + 1, z, by omega, by go_num, hC2, hz, ho2, ho3, hw⟩
          case measure => simp [intOf]; omega
    · obtain rfl : k = u := by omega
      have HR := Lib.hid (HMul.out z L hLk hC)
      have hDz := hC.dg
      have HLR := Lib.hid (remP_len HFl.out (z := z) (by rw [hC.len]; exact hLk))
      have hw1 := hw.trans (below_drewn' _ wr 1)
      have HX := Lib.hid (H.out.keep hw1)
      have hz1 := hz.below (below_drewn wr 1)
      have hrm := l03Rest_any (some ⟨gz, 0, none⟩) L L z A n c f p (wr.drewN 1) hz1.reads (hr.keep hw1) hDz HFl.out.dg hp (by omega) (by omega) (by omega) (by omega) hn1
      have hmin : min (n - 1) L ≤ 7 := by omega
      have HLK := Lib.hid (show ∀ L : Nat, L = k → p ^ L ≤ 1000000 from fun L e => by subst e; have := HFl.out.q64; omega)
      have x0 := (H.out.keep hw).c0
      have x2 := (H.out.keep hw).c2
      clear hz1 hC ho2 ho3 hz hDz
      go_wp2
      clear x0 x2
      go_region_held_law (fun w' => w'.cell? ⟨g, 0, none⟩ = some (.int .i64 p) ∧ w'.cell? ⟨g, 2, none⟩ = some (.slice A n c))
        (first | exact ⟨HX.out.c0, HX.out.c2⟩ | exact ⟨HX5.out.c0, HX5.out.c2⟩)
        ((first
          | (go_at_call 196; refine hrm.mono ?_; rintro e w5 ⟨A5, c5, rfl, ho5, hb5, hD5⟩; have HX5 := Lib.hid (HX.out.keep hb5); have hw5 := hw1.trans (hb5.mono hw1.size))
          | (go_at_call 195; refine (l03Number_any A5 (min (n - 1) L) c5 _ p _ ho5.reads hD5 hp (by omega) (HLK.out _ HLR.out) (by omega)).mono ?_; rintro e w6 ⟨rfl, rfl⟩)))
      all_goals
        go_wp2
        go_ret
        exact ⟨by rw [HR.out]; rfl, hw5⟩
def fsqK (p : Int) (k : Nat) (f : List Int) (a : Nat) : List Int := (List.range a).map fun (i : Nat) => mulP p k f ((i : Int) + 1) ((i : Int) + 1)
theorem fsqK_step (p : Int) (k : Nat) (f : List Int) (a : Nat) : fsqK p k f (a + 1) = fsqK p k f a ++ [mulP p k f ((a : Int) + 1) ((a : Int) + 1)] := by simp [fsqK, List.range_succ]
theorem fsqK_len (p : Int) (k : Nat) (f : List Int) (a : Nat) : (fsqK p k f a).length = a := by simp [fsqK]
def fsqL (p : Int) (k : Nat) (f : List Int) (q : Nat) : List Int := comp (srt (fsqK p k f (q - 1)))
set_option maxRecDepth 100000 in
set_option maxHeartbeats 4000000 in
theorem fieldSquares_any {p : Int} {k : Nat} {f : List Int} (hf : FldZ p (k : Int) f) (q : Nat) (hq : p ^ k = (q : Int)) (A : Option Addr) (n c : Nat) (w : World) (hr : RI w A n f) (hn : n ≤ 1000) :
    Calls Tryz.prog 185 #[.agg #[.int .i64 p, .int .i64 (k : Int), .slice A n c]] w (RetI w 2 (fsqL p k f q)) := by
  have hp61 := PR_bd hf.2.pr
  have hFO : FldOk p k f := by have := hf.2; rwa [Int.toNat_natCast] at this
  have hk6 : k ≤ 6 := (pow_le64 hp61.1 hFO.k1 hFO.q64).2
  have hq64 : q ≤ 64 := by have := hFO.q64; rw [hq] at this; omega
  have hq2 : 2 ≤ q := by
    obtain ⟨q', h1, h2, _⟩ := hFO.qnat
    rw [hq] at h1
    omega
  have hb0 := below_alloc w (.cells #[.int .i64 p, .int .i64 (k : Int), .slice A n c] 135)
  have X := Blk.new w 135 #[.int .i64 p, .int .i64 (k : Int), .slice A n c]
  have hvf := validField_any p (k : Int) A n c f (w.alloc (.cells #[.int .i64 p, .int .i64 (k : Int), .slice A n c] 135)) (hr.keep hb0) ⟨by omega, by omega⟩ ⟨by omega, by omega⟩ (by omega)
  rw [tB_yes hf] at hvf
  obtain ⟨x0, x1, x2⟩ := X.cells3
  have HFS := Lib.hid (fun (W : World) => fieldSize_any p k A n c W hp61.1 (by omega) hFO.q64 hk6)
  rw [hq] at HFS
  have HFO := Lib.hid hFO
  have HRR := Lib.hid hr
  clear hf hFO hq hr
  go_enter Tryz.func185, Tryz.ntmps185
  go_wp2_with fail
  refine hvf.mono ?_
  rintro e w1 ⟨rfl, hb1⟩
  have hw1 := hb0.trans (hb1.mono hb0.size)
  have X1 := X.after hb1
  have hz1 : w.heap.size + 1 ≤ w1.heap.size := by have := X1.lt; omega
  clear hvf x0 x1 x2 X hb0 hb1
  obtain ⟨x0, x1, x2⟩ := X1.cells3
  go_wp2
  clear x0 x1 x2
  obtain ⟨D, hD⟩ : ∃ D, D = w1.heap.size := ⟨_, rfl⟩
  go_loopw [3, 4] (fun lv av wr => ∃ (a : Nat) (R : Option Addr) (rc : Nat), a + 1 ≤ q ∧ av = .int .i64 ((a : Int) + 1) ∧ lv = .slice R a rc ∧ OI wr D 2 R a rc (fsqK p k f a) ∧ Below D w1 wr) (fun _ av _ => q - (intOf av).toNat)
  case atStart => exact ⟨0, none, 0, by omega, by go_num, rfl, OI.nil_ _ _ _, by rw [hD]; exact Below.refl _ _⟩
  case round =>
    obtain ⟨a, R, rc, ha, rfl, rfl, ho, hb⟩ := hrel
    have hbs := hb.size
    obtain ⟨x0, x1, x2⟩ := (X1.below hb (by omega)).cells3
    have hwr := hw1.trans (hb.mono (by omega))
    go_wp2_with fail
    refine (HFS.out _).mono ?_
    rintro e w3 ⟨rfl, hb3⟩
    have hbs3 := hb3.size
    replace x0 := below_cell hb3 x0
    replace x1 := below_cell hb3 x1
    replace x2 := below_cell hb3 x2
    have hw3 := hwr.trans (hb3.mono (by omega))
    have ho3 := ho.below hb3
    have hb33 := hb.trans (hb3.mono (by omega))
    have hbs33 := hb33.size
    clear ho hb3 hb hwr hbs
    by_cases hla : a + 1 < q
    · have HST := Lib.hid (fsqK_step p k f a)
      have hri := HRR.out.keep hw3
      have hpr := product_any p k A n c f ((a : Int) + 1) ((a : Int) + 1) w3 HFO.out hri ⟨by omega, by omega⟩ ⟨by omega, by omega⟩
      obtain ⟨m0, m1⟩ := mulP_bd (show 0 < p by omega) k f ((a : Int) + 1) ((a : Int) + 1)
      have m64 := HFO.out.q64
      have m2 : mulP p k f ((a : Int) + 1) ((a : Int) + 1) ≤ 64 := by omega
      generalize mulP p k f ((a : Int) + 1) ((a : Int) + 1) = mv at *
      clear m1 m64 hri
      go_wp2_with fail
      refine hpr.mono ?_
      rintro e w4 ⟨rfl, hb4⟩
      have ho4 := ho3.below hb4
      have hb44 := hb33.trans (hb4.mono (by omega))
      have hbs4 := hb44.size
      clear hpr ho3 hb33 hb4
      go_wp2_with (at_builtin; refine app_int _ rfl (.tmp 14) (.tmp 19) rfl D R a rc _ rfl ho4 mv w4.heap.size rfl rfl ⟨by omega, by omega⟩ (by omega) (by omega) ?_; intro A5 c5 w5 ho5 hg5 hf5; have hb5 := below_own hb44 hg5 (by omega) (fun b hb => (ho4.os.lt hb).1); rw [← HST.out] at ho5)
      go_round
      case rel => exact ⟨a + 1, A5, c5, by omega, by go_num, rfl, ho5, hb5⟩
      case measure => simp only [intOf]; omega
    · obtain ⟨a', rfl⟩ : ∃ a', q = a' + 1 := ⟨q - 1, by omega⟩
      obtain rfl : a = a' := by omega
      have HE : Hid (fsqL p k f (a + 1) = comp (srt (fsqK p k f a))) := Lib.hid rfl
      have hso := sort_any D 2 R a rc _ w3 ho3 (by omega)
      have hDw : w.heap.size ≤ D := by omega
      clear hla
      go_wp2_with fail
      refine hso.mono ?_
      rintro e w4 ⟨rfl, ho4, hg4⟩
      have hb44 := below_own hb33 hg4 (by omega) (fun b hb => (ho3.os.lt hb).1)
      have hco := compactI_any D R a rc _ w4 ho4 (by omega)
      clear hso
      go_wp2_with fail
      refine hco.mono ?_
      rintro e w5 ⟨m, rfl, ho5, hg5⟩
      have hs4 := hb44.size
      have hs3 := hb33.size
      have hb55 := below_own hb44 hg5 (by omega) (fun b hb => (ho4.os.lt hb).1)
      have hwr := hw1.trans (hb55.mono (by omega))
      have ho6 := ho5.more hDw
      rw [← HE.out] at ho6
      go_wp2
      go_ret
      exact ⟨R, m, rc, rfl, ho6, hwr⟩
def palF (p : Int) (k : Nat) (f : List Int) (sq : List Int) (x y : Nat) : Int := if x = 0 ∨ y = 0 then 1 else if memB sq (sumP p k (p - 1) ((y : Int) - 1) ((x : Int) - 1)) then 1 else -1
def palP (p : Int) (k : Nat) (f : List Int) (q : Nat) : List (List Int) := fillS (palF p k f (fsqL p k f q)) (q + 1) (q + 1)
theorem palF_pm (p : Int) (k : Nat) (f sq : List Int) (x y : Nat) : palF p k f sq x y = 1 ∨ palF p k f sq x y = -1 := by
  unfold palF
  split
  · exact .inl rfl
  · split
    · exact .inl rfl
    · exact .inr rfl
set_option maxRecDepth 100000 in
set_option maxHeartbeats 4000000 in
theorem paley1_any (ps pf : Addr) (p : Int) (k : Nat) (f sq : List Int) (A S : Option Addr) (n c sn sc x y q : Nat) (w : World) (hS : w.cell? ps = some (.slice S sn sc)) (hrs : RI w S sn sq) (hsn : sn ≤ 1000)
    (g : Nat) (hpf : pf = ⟨g, 0, none⟩) (x0 : w.cell? ⟨g, 0, none⟩ = some (.int .i64 p)) (x1 : w.cell? ⟨g, 1, none⟩ = some (.int .i64 (k : Int))) (x2 : w.cell? ⟨g, 2, none⟩ = some (.slice A n c)) (hf : FldOk p k f) (hq : p ^ k = (q : Int)) (hx : x < q + 1) (hy : y < q + 1) :
    Calls Tryz.prog 186 #[.int .i64 x, .int .i64 y, .pointer (some ps), .pointer (some pf)] w (fun e w' => e = .returned (.int .i64 (palF p k f sq x y)) ∧ Below w.heap.size w w') := by
  subst hpf
  have hp61 := PR_bd hf.pr
  have hk6 : k ≤ 6 := (pow_le64 hp61.1 hf.k1 hf.q64).2
  have hq64 : q ≤ 64 := by have := hf.q64; rw [hq] at this; omega
  by_cases h0 : x = 0 ∨ y = 0
  · have HP : Hid (palF p k f sq x y = 1) := Lib.hid (by unfold palF; rw [if_pos h0])
    rcases Nat.eq_zero_or_pos x with rfl | hx0
    · go_enter Tryz.func186, Tryz.ntmps186
      go_wp2
      go_quiet (fail)
      go_wp2
      go_ret
      exact ⟨by rw [HP.out]; rfl, below_drewn _ _⟩
    · obtain rfl : y = 0 := by omega
      have hxb : ((x : Int) == 0) = false := by simp; omega
      go_enter Tryz.func186, Tryz.ntmps186
      go_wp2
      go_quiet (fail)
      go_wp2
      go_ret
      exact ⟨by rw [HP.out]; rfl, below_drewn _ _⟩
  · have hx0 : x ≠ 0 := fun h => h0 (.inl h)
    have hy0 : y ≠ 0 := fun h => h0 (.inr h)
    have hxb : ((x : Int) == 0) = false := by simp; omega
    have hyb : ((y : Int) == 0) = false := by simp; omega
    have HP : Hid (palF p k f sq x y = if memB sq (sumP p k (p - 1) ((y : Int) - 1) ((x : Int) - 1)) then 1 else -1) := Lib.hid (by unfold palF; rw [if_neg h0])
    have HCB := Lib.hid (fun (W : World) => combine_any p k A n c ((y : Int) - 1) ((x : Int) - 1) (-1) (p - 1) W hp61.1 hp61.2 hf.q64 hk6 ⟨by omega, by omega⟩ ⟨by omega, by omega⟩ (Or.inr ⟨rfl, rfl⟩))
    generalize sumP p k (p - 1) ((y : Int) - 1) ((x : Int) - 1) = sv at *
    have HCN := Lib.hid (fun (W : World) (h : Below w.heap.size w W) => containsI_any S sn sc sq sv W (hrs.keep h) (by omega))
    have hdr : Below w.heap.size w w.drew := by have := below_drewn w 1; rwa [← World.drew_is_drewN] at this
    have ew1 : IntKind.i64.wrap ((y : Int) - 1) = (y : Int) - 1 := IntWalk.i64_in _ (by omega)
    have ew2 : IntKind.i64.wrap ((x : Int) - 1) = (x : Int) - 1 := IntWalk.i64_in _ (by omega)
    clear h0 hx0 hy0 hq hf hrs
    go_enter Tryz.func186, Tryz.ntmps186
    go_wp2
    have hS1 : w.drew.cell? ps = some (.slice S sn sc) ∧ w.drew.cell? ⟨g, 0, none⟩ = some (.int .i64 p) ∧ w.drew.cell? ⟨g, 1, none⟩ = some (.int .i64 (k : Int)) ∧ w.drew.cell? ⟨g, 2, none⟩ = some (.slice A n c) ∧ Below w.heap.size w w.drew := ⟨below_cell hdr hS, below_cell hdr x0, below_cell hdr x1, below_cell hdr x2, hdr⟩
    refine wp_region_held (P := Tryz.prog) (S := fun w' => w'.cell? ps = some (.slice S sn sc) ∧ w'.cell? ⟨g, 0, none⟩ = some (.int .i64 p) ∧ w'.cell? ⟨g, 1, none⟩ = some (.int .i64 (k : Int)) ∧ w'.cell? ⟨g, 2, none⟩ = some (.slice A n c) ∧ Below w.heap.size w w') (by kernel_rfl) ?_
    rw [show ({ w with drawn := w.drawn + 1 } : World) = w.drew from rfl]
    generalize w.drew = W5 at *
    clear hdr
    refine wpAnyH_take (i := 0) (v := ?_) rfl (by kernel_rfl) (by kernel_rfl) (by kernel_rfl) (fun _ _ _ h => h) (Or.inl ⟨by kernel_rfl, ?_⟩) (by assumption) ?_
    rotate_left
    · (intro w hSw; (try dsimp only at hSw); go_simp; (try with_reducible rfl))
    simp only [Act.put, List.setIfInBounds_toArray, List.set_cons_zero, List.set_cons_succ]
    refine wpAnyH_take (i := 1) (v := ?_) rfl (by kernel_rfl) (by kernel_rfl) (by kernel_rfl) (fun _ _ _ h => h) (Or.inl ⟨by kernel_rfl, ?_⟩) (by assumption) ?_
    rotate_left
    · (intro w hSw; (try dsimp only at hSw); go_simp; (try with_reducible rfl))
    simp only [Act.put, List.setIfInBounds_toArray, List.set_cons_zero, List.set_cons_succ]
    refine wpAnyH_take (i := 2) (v := ?_) rfl (by kernel_rfl) (by kernel_rfl) (by kernel_rfl) (fun _ _ _ h => h) (Or.inl ⟨by kernel_rfl, ?_⟩) (by assumption) ?_
    rotate_left
    · (intro w hSw; (try dsimp only at hSw); go_simp; (try with_reducible rfl))
    simp only [Act.put, List.setIfInBounds_toArray, List.set_cons_zero, List.set_cons_succ]
    refine wpAnyH_take (i := 3) (v := ?_) rfl (by kernel_rfl) (by kernel_rfl) (by kernel_rfl) (fun _ _ _ h => h) (Or.inl ⟨by kernel_rfl, ?_⟩) (by assumption) ?_
    rotate_left
    · (intro w hSw; (try dsimp only at hSw); go_simp; (try with_reducible rfl))
    simp only [Act.put, List.setIfInBounds_toArray, List.set_cons_zero, List.set_cons_succ]
    refine wpAnyH_take (i := 4) (v := ?_) rfl (by kernel_rfl) (by kernel_rfl) (by kernel_rfl) (fun _ _ _ h => h) (Or.inl ⟨by kernel_rfl, ?_⟩) (by assumption) ?_
    rotate_left
    · (intro w hSw; (try dsimp only at hSw); go_simp; (try with_reducible rfl))
    simp only [Act.put, List.setIfInBounds_toArray, List.set_cons_zero, List.set_cons_succ]
    refine wpAnyH_take (i := 5) (v := ?_) rfl (by kernel_rfl) (by kernel_rfl) (by kernel_rfl) (fun _ _ _ h => h) (Or.inl ⟨by kernel_rfl, ?_⟩) (by assumption) ?_
    rotate_left
    · (intro w hSw; (try dsimp only at hSw); go_simp; (try with_reducible rfl))
    simp only [Act.put, List.setIfInBounds_toArray, List.set_cons_zero, List.set_cons_succ]
    refine wpAnyH_take (i := 6) (v := ?_) rfl (by kernel_rfl) (by kernel_rfl) (by kernel_rfl) (fun _ _ _ h => h) (Or.inl ⟨by kernel_rfl, ?_⟩) (by assumption) ?_
    rotate_left
    · (intro w hSw; (try dsimp only at hSw); go_simp; (try with_reducible rfl))
    simp only [Act.put, List.setIfInBounds_toArray, List.set_cons_zero, List.set_cons_succ]
    refine wpAnyH_take (i := 7) (v := ?_) rfl (by kernel_rfl) (by kernel_rfl) (by kernel_rfl) (fun _ _ _ h => h) (Or.inl ⟨by kernel_rfl, ?_⟩) (by assumption) ?_
    rotate_left
    · (intro w hSw; (try dsimp only at hSw); go_simp; (try with_reducible rfl))
    simp only [Act.put, List.setIfInBounds_toArray, List.set_cons_zero, List.set_cons_succ]
    refine wpAnyH_take (i := 8) (v := ?_) rfl (by kernel_rfl) (by kernel_rfl) (by kernel_rfl) (fun _ _ _ h => h) (Or.inl ⟨by kernel_rfl, ?_⟩) (by assumption) ?_
    rotate_left
    · (intro w hSw; (try dsimp only at hSw); go_simp; (try with_reducible rfl))
    simp only [Act.put, List.setIfInBounds_toArray, List.set_cons_zero, List.set_cons_succ]
    refine wpAnyH_take (i := 9) (v := ?_) rfl (by kernel_rfl) (by kernel_rfl) (by kernel_rfl) (fun _ _ _ h => h) (Or.inl ⟨by kernel_rfl, ?_⟩) (by assumption) ?_
    rotate_left
    · (intro w hSw; (try dsimp only at hSw); go_simp; (try with_reducible rfl))
    simp only [Act.put, List.setIfInBounds_toArray, List.set_cons_zero, List.set_cons_succ]
    refine wpAnyH_take (i := 10) (v := ?_) rfl (by kernel_rfl) (by kernel_rfl) (by kernel_rfl) (fun _ _ _ h => h) (Or.inl ⟨by kernel_rfl, ?_⟩) (by assumption) ?_
    rotate_left
    · (intro w hSw; (try dsimp only at hSw); go_simp; (try with_reducible rfl))
    simp only [Act.put, List.setIfInBounds_toArray, List.set_cons_zero, List.set_cons_succ]
    refine wpAnyH_take (i := 11) (v := ?_) rfl (by kernel_rfl) (by kernel_rfl) (by kernel_rfl) (fun _ _ _ h => h) (Or.inl ⟨by kernel_rfl, ?_⟩) (by assumption) ?_
    rotate_left
    · (intro w hSw; (try dsimp only at hSw); go_simp; (try with_reducible rfl))
    simp only [Act.put, List.setIfInBounds_toArray, List.set_cons_zero, List.set_cons_succ]
    refine wpAnyH_take (i := 12) (v := ?_) rfl (by kernel_rfl) (by kernel_rfl) (by kernel_rfl) (fun _ _ _ h => h) (Or.inl ⟨by kernel_rfl, ?_⟩) (by assumption) ?_
    rotate_left
    · (intro w hSw; (try dsimp only at hSw); go_simp; (try with_reducible rfl))
    simp only [Act.put, List.setIfInBounds_toArray, List.set_cons_zero, List.set_cons_succ]
    try simp only [List.getElem_toArray, List.getElem_cons_succ, List.getElem_cons_zero]
    refine wpAnyH_ready (rs := [13]) (by kernel_rfl) (by simp) ?_
    refine AllReadyH.cons rfl (fun K hK => ?_) AllReadyH.nil
    go_simp
    refine (HCB.out _).mono ?_
    rintro e w6 ⟨rfl, hb6⟩
    dsimp only
    refine hK.out _ _ ⟨below_cell hb6 hS1.1, below_cell hb6 hS1.2.1, below_cell hb6 hS1.2.2.1, below_cell hb6 hS1.2.2.2.1, hS1.2.2.2.2.trans (hb6.mono hS1.2.2.2.2.size)⟩ (fun hS2 => ?_)
    clear hK K
    try simp only [List.getElem_toArray, List.getElem_cons_succ, List.getElem_cons_zero, Act.put, List.setIfInBounds_toArray, List.set_cons_zero, List.set_cons_succ]
    refine wpAnyH_ready (rs := [14]) (by kernel_rfl) (by simp) ?_
    refine AllReadyH.cons rfl (fun K hK => ?_) AllReadyH.nil
    go_simp
    refine (HCN.out _ hS2.2.2.2.2).mono ?_
    rintro e w7 ⟨rfl, rfl⟩
    dsimp only
    refine hK.out _ _ hS2 (fun hS3 => ?_)
    clear hK K
    try simp only [List.getElem_toArray, List.getElem_cons_succ, List.getElem_cons_zero, Act.put, List.setIfInBounds_toArray, List.set_cons_zero, List.set_cons_succ]
    refine wpAnyH_take (i := 15) (v := ?_) rfl (by kernel_rfl) (by kernel_rfl) (by kernel_rfl) (fun _ _ _ h => h) (Or.inl ⟨by kernel_rfl, ?_⟩) (by assumption) ?_
    rotate_left
    · (intro w hSw; (try dsimp only at hSw); go_simp; (try with_reducible rfl))
    simp only [Act.put, List.setIfInBounds_toArray, List.set_cons_zero, List.set_cons_succ]
    refine wpAnyH_done (by kernel_rfl) ?_ _
    have hw := hS3.2.2.2.2
    cases hmb : memB sq sv with
    | true =>
      go_wp2
      go_ret
      exact ⟨by rw [HP.out, if_pos hmb]; rfl, hw⟩
    | false =>
      go_wp2
      go_ret
      exact ⟨by rw [HP.out, if_neg (by rw [hmb]; decide)]; rfl, hw⟩
def isSqK (m a : Nat) : Bool := (List.range m).any fun x => x * x % m == a
def sqK (m k : Nat) : List Int := ((List.range k).filter fun a => decide (0 < a) && isSqK m a).map fun (a : Nat) => (a : Int)
theorem sqK_one (m : Nat) : sqK m 1 = [] := by simp [sqK, List.range_succ]
theorem sqK_yes {m k : Nat} (h0 : 0 < k) (h : isSqK m k = true) : sqK m (k + 1) = sqK m k ++ [(k : Int)] := by
  unfold sqK
  rw [List.range_succ, List.filter_append, List.map_append, List.filter_cons_of_pos (by simp [h0, h])]
  simp
theorem sqK_no {m k : Nat} (h : isSqK m k = false) : sqK m (k + 1) = sqK m k := by
  unfold sqK
  rw [List.range_succ, List.filter_append, List.map_append, List.filter_cons_of_neg (by simp [h])]
  simp
theorem isSqK_yes {m a x : Nat} (h : x < m) (e : x * x % m = a) : isSqK m a = true := List.any_eq_true.2 ⟨x, List.mem_range.2 h, by simp [e]⟩
theorem isSqK_no {m a : Nat} (h : ∀ x, x < m → x * x % m ≠ a) : isSqK m a = false := by
  unfold isSqK
  rw [List.any_eq_false]
  intro x hx
  simpa using h x (List.mem_range.1 hx)
theorem sqK_len (m k : Nat) : (sqK m k).length ≤ k := by
  unfold sqK
  rw [List.length_map]
  exact Nat.le_trans (List.length_filter_le _ _) (by simp)
def mapK (n : Nat) (f : Int → Int) (s : List Int) : List Int := srt (s.map fun x => f x % n)
def transK (n : Nat) (s : List Int) (by_ : Int) : List Int := mapK n (fun x => x + by_) s
theorem isModulus_any (m : Int) (w : World) : Calls Tryz.prog 181 #[.int .i64 m] w (fun e w' => e = .returned (.bool (inB m 1 1000)) ∧ w = w') := by
  go_enter Tryz.func181, Tryz.ntmps181
  go_wp2_with (go_at_call 30; refine (within_any _ _ _ _).mono ?_; rintro e w' ⟨rfl, rfl⟩)
  go_ret
  exact ⟨rfl, rfl⟩
theorem isResidue_ok (a m : Nat) (w : World) (h : a < m) (hm : m ≤ 1000) : Calls Tryz.prog 201 #[.int .i64 a, .int .i64 m] w (fun e w' => e = .returned (.bool true) ∧ w = w') := by
  have h1 : inB (m : Int) 1 1000 = true := inB_mk (by omega)
  have h2 : inB (a : Int) 0 ((m : Int) - 1) = true := inB_mk (by omega)
  go_enter Tryz.func201, Tryz.ntmps201
  go_wp2_with (first | (go_at_call 181; refine (isModulus_any _ _).mono ?_; rintro e w' ⟨rfl, rfl⟩; rw [h1]) | (go_at_call 30; refine (within_any _ _ _ _).mono ?_; rintro e w' ⟨rfl, rfl⟩; rw [h2]))
  go_ret
  exact ⟨rfl, rfl⟩
set_option maxHeartbeats 1000000 in
theorem isSquareMod_any (a m : Nat) (w : World) (ha : 1 ≤ a) (h : a < m) (hm : m ≤ 1000) : Calls Tryz.prog 182 #[.int .i64 a, .int .i64 m] w (fun e w' => e = .returned (.bool (isSqK m a)) ∧ w = w') := by
  have ha0 : ((a : Int) == 0) = false := by simp; omega
  go_enter Tryz.func182, Tryz.ntmps182
  go_wp2_with (go_at_call 201; refine (isResidue_ok a m _ h hm).mono ?_; rintro e w' ⟨rfl, rfl⟩)
  go_loop [5] (fun d => ∃ x : Nat, d = .int .i64 x ∧ x ≤ m ∧ ∀ y, y < x → y * y % m ≠ a) (fun d => m - (intOf d).toNat)
  case atStart => exact ⟨0, rfl, Nat.zero_le _, fun y hy => by omega⟩
  case round =>
    obtain ⟨x, rfl, hx, hn⟩ := hrel
    have hmul := mul_bd' (a := (x : Int)) (b := (x : Int)) (A := 1000) (B := 1000) (by omega) (by omega) (by omega) (by omega)
    have hmul1 := hmul.1
    have hmul2 := hmul.2
    clear hmul
    have hxx : ((x * x : Nat) : Int) = (x : Int) * x := Int.natCast_mul x x
    by_cases hlt : x < m
    · by_cases he : x * x % m = a
      · have hE := Lib.hid (isSqK_yes hlt he)
        have he2 : (((x : Int) * x) % (m : Int) == (a : Int)) = true := by rw [← hxx]; simp; exact_mod_cast he
        clear hn he hxx
        go_wp2
        go_ret
        exact ⟨by rw [hE.out]; rfl, rfl⟩
      · have he2 : (((x : Int) * x) % (m : Int) == (a : Int)) = false := by rw [← hxx]; simp; exact_mod_cast he
        have HN := Lib.hid (fun y (hy : y < x + 1) => show y * y % m ≠ a from by
          rcases Nat.lt_succ_iff_lt_or_eq.1 hy with h1 | rfl
          · exact hn y h1
          · exact he)
        clear hn he hxx
        go_wp2
        go_round
        case rel => exact ⟨x + 1, by go_num, by omega, HN.out⟩
        case measure => simp [intOf]; omega
    · obtain rfl : x = m := by omega
      have hE := Lib.hid (isSqK_no hn)
      clear hn hxx
      go_wp2
      go_ret
      exact ⟨by rw [hE.out]; rfl, rfl⟩
set_option maxHeartbeats 1000000 in
theorem squaresMod_any (m : Nat) (w : World) (h2 : 1 ≤ m) (hm : m ≤ 1000) : Calls Tryz.prog 149 #[.int .i64 m] w (RetI w 2 (sqK m m)) := by
  have h1 : inB (m : Int) 1 1000 = true := inB_mk (by omega)
  go_enter Tryz.func149, Tryz.ntmps149
  go_wp2_with (go_at_call 181; refine (isModulus_any _ _).mono ?_; rintro e w' ⟨rfl, rfl⟩; rw [h1])
  go_loopw [3, 4] (fun l i wr => ∃ (k : Nat) (A : Option Addr) (n c : Nat), 1 ≤ k ∧ k ≤ m ∧ i = .int .i64 k ∧ l = .slice A n c ∧ OI wr w.heap.size 2 A n c (sqK m k) ∧ Below w.heap.size w wr) (fun _ i _ => m - (intOf i).toNat)
  case atStart => exact ⟨1, none, 0, 0, Nat.le_refl _, h2, rfl, rfl, by rw [sqK_one]; exact OI.nil_ _ _ _, Below.refl _ _⟩
  case round =>
    obtain ⟨k, A, n, c, hk1, hk, rfl, rfl, ho, hb⟩ := hrel
    by_cases hlt : k < m
    · have hq := isSquareMod_any k m wr hk1 hlt hm
      have hln := ho.len
      have hll := sqK_len m k
      have hbs := hb.size
      have hki : I64 (k : Int) := by unfold I64; omega
      have hn1 : n + 1 ≤ 2199023255552 := by omega
      cases hs : isSqK m k with
      | true =>
        rw [hs] at hq
        have HY := Lib.hid (sqK_yes (by omega) hs)
        clear hs
        go_wp2_with (first | (go_at_call 182; refine hq.mono ?_; rintro e w' ⟨rfl, rfl⟩) | (at_builtin; refine app_int _ rfl (.tmp 16) (.tmp 18) rfl w.heap.size A n c _ rfl ho (k : Int) wr.heap.size rfl rfl hki hn1 hbs ?_; intro A4 c4 w4 ho4 hg4 hf4; have hb4 := below_own hb hg4 hbs (fun q hq => (ho.os.lt hq).1)))
        go_roundw
        case rel => exact ⟨k + 1, A4, n + 1, c4, by omega, by omega, by go_num, rfl, by rw [HY.out]; exact ho4, hb4⟩
        case measure => simp [intOf]; omega
      | false =>
        rw [hs] at hq
        have HY := Lib.hid (sqK_no hs)
        clear hs
        go_wp2_with (go_at_call 182; refine hq.mono ?_; rintro e w' ⟨rfl, rfl⟩)
        go_roundw
        case rel => exact ⟨k + 1, A, n, c, by omega, by omega, by go_num, rfl, by rw [HY.out]; exact ho, hb⟩
        case measure => simp [intOf]; omega
    · obtain rfl : k = m := by omega
      go_wp2
      go_ret
      exact ⟨A, n, c, rfl, ho, hb⟩
set_option maxHeartbeats 1000000 in
theorem paleySet_any (p : Nat) (w : World) (h : p ≤ 31) (hp : isP p = true) (h4 : p % 4 = 3) : Calls Tryz.prog 92 #[.int .i64 p] w (RetIC w 2 (sqK p p) 0) := by
  have h5 : ((p : Int) % 4 == 3) = true := by simp; omega
  have h6 : ((p : Int) % 4 != 3) = false := by simp; omega
  go_enter Tryz.func92, Tryz.ntmps92
  go_wp2_with fail
  refine (impl_IsPrime _ _).mono ?_
  rintro e w1 ⟨rfl, hb1⟩
  rw [hp]
  go_wp2_with fail
  refine (squaresMod_any p w1 (by omega) (by omega)).mono ?_
  rintro e w2 ⟨A, n, c, rfl, ho, hb2⟩
  go_wp2
  go_ret2
  exact ⟨A, n, c, rfl, ho.more hb1.size, hb1.trans (hb2.mono hb1.size)⟩
end Go.Proofs.YtnmcmologlgccaaGreat
