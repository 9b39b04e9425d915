/- Products of elements of a field, on both sides. No condition beyond those stated. -/
import Derived.Test.YtcnjlkabdfcjdaaZAU
set_option linter.unusedVariables false
set_option linter.unusedSimpArgs false
namespace Go.Proofs.Ytcnjlkabdfcjdaa
open Go.RowKit

theorem linF_set {z : List Int} {t : Nat} (ht : t < z.length) (v : Int) (ψ : Nat → Int) : linF (z.set t v) ψ = linF z ψ + (v - nth z t) * ψ t := by
  unfold linF
  rw [List.length_set]
  have h1 : ∀ i, nth (z.set t v) i * ψ i = nth z i * ψ i + (if i = t then (v - nth z t) * ψ t else 0) := fun i => by
    rw [nth_setI ht]
    by_cases e : i = t
    · subst e; rw [if_pos rfl, if_pos rfl]; exact (show ∀ X y z : Int, X * z = y * z + (X - y) * z from fun X y z => by rw [Int.sub_mul]; omega) _ _ _
    · rw [if_neg e, if_neg e, Int.add_zero]
  rw [sumN_congr fun i _ => h1 i, sumN_add, sumN_at ht]
/-- products of digits gathered: all rows below i, and j places of row i -/
structure ConvSt (p : Int) (k : Nat) (x y : List Int) (L i j : Nat) (z : List Int) : Prop where
  len : z.length = L
  dg : Dg p z
  lin : ∀ ψ : Nat → Int, Cg p (linF z ψ) ((sumN i fun a => sumN k fun b => nth x a * nth y b * ψ (a + b)) + sumN j fun b => nth x i * nth y b * ψ (i + b))
theorem ConvSt.start {p : Int} (h0 : 0 < p) (k : Nat) (x y : List Int) (L : Nat) : ConvSt p k x y L 0 0 (List.replicate L 0) := by
  have hz : ∀ t, nth (List.replicate L (0 : Int)) t = 0 := fun t => by
    unfold nth
    simp [List.getD, List.getElem?_replicate]
    split <;> rfl
  refine ⟨by simp, fun t => by rw [hz]; omega, fun ψ => Cg.of_eq ?_⟩
  rw [sumN, sumN]
  exact sumN_zero fun t _ => by rw [hz, Int.zero_mul]
theorem ConvSt.step {p : Int} (h0 : 0 < p) {k : Nat} {x y : List Int} {L i j : Nat} {z : List Int} (h : ConvSt p k x y L i j z) (hl : i + j < L) : ConvSt p k x y L i (j + 1) (z.set (i + j) ((nth z (i + j) + nth x i * nth y j) % p)) := by
  have ht : i + j < z.length := by rw [h.len]; exact hl
  refine ⟨by rw [List.length_set, h.len], fun t => ?_, fun ψ => ?_⟩
  · rw [nth_setI ht]
    split
    · exact ⟨Int.emod_nonneg _ (by omega), Int.emod_lt_of_pos _ h0⟩
    · exact h.dg t
  · rw [linF_set ht, sumN]
    have m : Cg p ((nth z (i + j) + nth x i * nth y j) % p - nth z (i + j)) (nth x i * nth y j) := by
      refine ((Cg.mod p _).sub (Cg.rfl_ p _)).trans (Cg.of_eq ?_)
      omega
    refine ((h.lin ψ).add (m.mul_right (ψ (i + j)))).trans (Cg.of_eq ?_)
    omega
theorem ConvSt.row {p : Int} {k : Nat} {x y : List Int} {L i : Nat} {z : List Int} (h : ConvSt p k x y L i k z) : ConvSt p k x y L (i + 1) 0 z :=
  ⟨h.len, h.dg, fun ψ => (h.lin ψ).trans (Cg.of_eq (by rw [sumN, sumN, Int.add_zero]))⟩
theorem ConvSt.done {p : Int} {k : Nat} {x y : List Int} {L : Nat} {z : List Int} (h : ConvSt p k x y L k 0 z) : ∀ ψ : Nat → Int, Cg p (linF z ψ) (sumN k fun a => sumN k fun b => nth x a * nth y b * ψ (a + b)) := fun ψ =>
  (h.lin ψ).trans (Cg.of_eq (by rw [sumN, Int.add_zero]))
/-- a product of digits as both sides reckon it -/
theorem prod_step {v x y p : Int} (hp : 2 ≤ p) (hp2 : p ≤ 64) (hv : 0 ≤ v) (hv2 : v < p) (hx : 0 ≤ x) (hx2 : x < p) (hy : 0 ≤ y) (hy2 : y < p) :
    IntKind.i64.wrap (x * y) = x * y ∧ IntKind.i64.wrap (v + x * y) = v + x * y ∧ (v + x * y).tmod p = (v + x * y) % p ∧ 0 ≤ (v + x * y) % p ∧ (v + x * y) % p < p ∧ ¬ p = 0 := by
  obtain ⟨m1, m2⟩ := mul_bd (a := x) (b := y) (x := 64) (y := 64) hx (by omega) hy (by omega)
  exact ⟨IntWalk.i64_in _ (by omega), IntWalk.i64_in _ (by omega), Int.tmod_eq_emod_of_nonneg (by omega), Int.emod_nonneg _ (by omega), Int.emod_lt_of_pos _ (by omega), by omega⟩
theorem apart_of {w2 w3 : World} {B2 : Nat} {e2 e3 : TypeId} {A2 A3 : Option Addr} {n2 c2 n3 c3 : Nat} {x y : List Int} {B3 : Nat} (h2 : OI w2 B2 e2 A2 n2 c2 x) (h3 : OI w3 B3 e3 A3 n3 c3 y) (hB : w2.heap.size ≤ B3) : blk A3 = none ∨ blk A3 ≠ blk A2 := by
  cases h : blk A3 with
  | none => exact .inl rfl
  | some g3 =>
    refine .inr fun e => ?_
    have h1 := (h3.os.lt h).1
    have h2 := (h2.os.lt e.symm).2
    omega
set_option maxRecDepth 100000 in
set_option maxHeartbeats 800000 in
theorem l03Mul_any (g : Nat) (p : Int) (k : Nat) (A : Option Addr) (n c : Nat) (f : List Int) (a b : Int) (w : World) (h : FAt w g p k A n c f) (hf : FldOk p k f) (ha : 0 ≤ a ∧ a ≤ 64) (hb : 0 ≤ b ∧ b ≤ 64) :
    Calls Try.prog 106 #[.pointer (some ⟨g, 0, none⟩), .int .i64 a, .int .i64 b] w (fun e w' => e = .returned (.int .i64 (mulP p k f a b)) ∧ Below w.heap.size w w') := by
  obtain ⟨hp, hp2⟩ := PR_bd hf.pr
  have hk := (pow_le64 hp hf.k1 hf.q64).2
  have hk1 := hf.k1
  have HFl := Lib.hid hf
  have hr := h.ri
  have hnk : n = k + 1 := by rw [← hr.len, hf.len]
  have hn7 : n ≤ 7 := by omega
  have hn1 : 1 ≤ n := by omega
  have HNK := Lib.hid hnk
  obtain ⟨a0, a1⟩ := ha
  obtain ⟨b0, b1⟩ := hb
  have H := Lib.hid h
  have HF1 := Lib.hid (h.keep (below_drewn w 1))
  have x0 := h.c0
  have x1 := h.c1
  clear hf hnk h
  go_enter Try.func106, Try.ntmps106
  go_wp2
  clear x0 x1
  go_region_held_law (fun w' => w'.cell? ⟨g, 0, none⟩ = some (.int .i64 p) ∧ w'.cell? ⟨g, 1, none⟩ = some (.int .i64 k))
    (first | exact ⟨HF1.out.c0, HF1.out.c1⟩ | exact ⟨HF2.out.c0, HF2.out.c1⟩)
    ((go_at_call 122; refine (l03Digits_any a p k _ a0 (by omega) hp (by omega) (by omega)).mono ?_; rintro e w2 ⟨A2, n2, c2, rfl, ho2, hb2⟩; have HF2 := Lib.hid (HF1.out.keep hb2)))
  have hw2 := (below_drewn w 1).trans (hb2.mono (Nat.le_refl _))
  have hzz : w.heap.size ≤ (w.drewN 1).heap.size := Nat.le_refl _
  obtain rfl : k = n2 := by rw [← ho2.len, digs_len]
  have HF3 := Lib.hid (HF2.out.keep (below_drewn w2 1))
  have x0 := HF2.out.c0
  have x1 := HF2.out.c1
  have ho2 := (ho2.below (below_drewn w2 1)).more hzz
  clear hb2
  go_wp2
  clear x0 x1
  go_region_held_law (fun w' => w'.cell? ⟨g, 0, none⟩ = some (.int .i64 p) ∧ w'.cell? ⟨g, 1, none⟩ = some (.int .i64 k))
    (first | exact ⟨HF3.out.c0, HF3.out.c1⟩ | exact ⟨HF4.out.c0, HF4.out.c1⟩)
    ((go_at_call 122; refine (l03Digits_any b p k _ b0 (by omega) hp (by omega) (by omega)).mono ?_; rintro e w3 ⟨A3, n3, c3, rfl, ho3, hb3⟩; have HF4 := Lib.hid (HF3.out.keep hb3)))
  have hw3 := (hw2.trans (below_drewn' _ w2 1)).trans (hb3.mono hw2.size)
  obtain rfl : k = n3 := by rw [← ho3.len, digs_len]
  have hap := apart_of ho2 ho3 (Nat.le_refl _)
  have ho2 := ho2.below hb3
  have ho3 := ho3.more (show w.heap.size ≤ (w2.drewN 1).heap.size from hw2.size)
  have hD2 := digs_dg (p := p) (by omega) a k
  have hD3 := digs_dg (p := p) (by omega) b k
  have x0 := HF4.out.c0
  have x1 := HF4.out.c1
  have x2 := HF4.out.c2
  clear hw2 hb3 hzz HF1 HF2 HF3
  have HMul := Lib.hid (fun (z : List Int) (L : Nat) (hL : k ≤ L) (h : ConvSt p k (digsP a p k) (digsP b p k) L k 0 z) => show numR (remP p f z) p = mulP p k f a b from rem_mul HFl.out h.dg (by rw [h.len]; exact hL) h.done)
  generalize digsP a p k = x at *
  generalize digsP b p k = y at *
  obtain ⟨L, hL⟩ : ∃ L : Nat, L = 2 * k - 1 := ⟨_, rfl⟩
  have hmk := run_make_row' (P := Try.prog) 30 2 (.int .i64 0) 8 Try.underlying30 int_info rfl .i64 .i64 L (by omega) (by omega)
  have e2k : (L : Int) = 2 * (k : Int) - 1 := by omega
  rw [e2k] at hmk
  have hz0 := OI.made w3 w.heap.size 2 L hw3.size (by omega)
  have hbz := below_alloc w3 (.cells (madeCells #[.int .i64 0] L) 2)
  have hapx : blk A2 = none ∨ blk A2 ≠ some w3.heap.size := by
    cases h : blk A2 with
    | none => exact .inl rfl
    | some g2 => exact .inr fun e => by injection e with e; have := (ho2.os.lt h).2; omega
  have hapy : blk A3 = none ∨ blk A3 ≠ some w3.heap.size := by
    cases h : blk A3 with
    | none => exact .inl rfl
    | some g2 => exact .inr fun e => by injection e with e; have := (ho3.os.lt h).2; omega
  have ho2 := ho2.below hbz
  have ho3 := ho3.below hbz
  have hw4 := hw3.trans (hbz.mono hw3.size)
  have hC := ConvSt.start (p := p) (by omega) k x y L
  generalize hzl : List.replicate L (0 : Int) = z0 at *
  have hLk : k ≤ L := by omega
  have hLu : ∀ u v : Nat, u < k → v < k → u + v < L := fun u v h1 h2 => by omega
  have HLU := Lib.hid hLu
  have hL12 : L ≤ 12 := by omega
  clear hzl e2k hL hLu
  go_wp2
  have hgz : w.heap.size ≤ w3.heap.size := hw3.size
  generalize w3.heap.size = gz at *
  go_loopw [10, 11] (fun i _ wr => ∃ (u : Nat) (z : List Int), u ≤ k ∧ i = .int .i64 u ∧ ConvSt p k x y L u 0 z ∧ OI wr w.heap.size 2 (some ⟨gz, 0, none⟩) L L z ∧ OI wr w.heap.size 2 A2 k c2 x ∧ OI wr w.heap.size 2 A3 k c3 y ∧ Below w.heap.size w wr) (fun i _ _ => k - (intOf i).toNat)
  case atStart => exact ⟨0, _, Nat.zero_le _, rfl, hC, hz0, ho2, ho3, hw4⟩
  case round =>
    clear hC hz0 ho2 ho3 hw4 x0 x1 x2 hw3 hbz HF4
    obtain ⟨u, z, hu, rfl, hC, hz, ho2, ho3, hw⟩ := hrel
    by_cases hul : u < k
    · go_wp2
      obtain ⟨wo, rfl⟩ : ∃ wo : World, wo = wr := ⟨_, rfl⟩
      go_loopw [11] (fun i wi => ∃ (v : Nat) (z : List Int), v ≤ k ∧ i = .int .i64 v ∧ ConvSt p k x y L u v z ∧ OI wi w.heap.size 2 (some ⟨gz, 0, none⟩) L L z ∧ OI wi w.heap.size 2 A2 k c2 x ∧ OI wi w.heap.size 2 A3 k c3 y ∧ Below w.heap.size w wi) (fun i _ => k - (intOf i).toNat)
      case atStart => exact ⟨0, z, Nat.zero_le _, rfl, hC, hz, ho2, ho3, hw⟩
      case round =>
        clear hC hz ho2 ho3 hw
        obtain ⟨v, z, hv, rfl, hC, hz, ho2, ho3, hw⟩ := hrel
        by_cases hvl : v < k
        · have hw0 := hw.trans (below_drewn' _ wr 1)
          have hz0 := hz.below (below_drewn wr 1)
          have ho20 := ho2.below (below_drewn wr 1)
          have ho30 := ho3.below (below_drewn wr 1)
          have X0 := H.out.keep hw0
          have huv : u + v < L := HLU.out u v hul hvl
          obtain ⟨gz', hgz', cz, fz, iz⟩ := hz0.cell huv
          cases hgz'
          obtain ⟨gA, hA2, ca, fa, ia⟩ := ho20.cell hul
          obtain ⟨gB, hA3, cb, fb, ib⟩ := ho30.cell hvl
          obtain ⟨z0, z1⟩ := hC.dg (u + v)
          obtain ⟨xx0, xx1⟩ := hD2 u
          obtain ⟨y0, y1⟩ := hD3 v
          obtain ⟨q1, q2, q4, q5, q6, q7⟩ := prod_step (v := nth z (u + v)) (x := nth x u) (y := nth y v) hp (by omega) z0 z1 xx0 xx1 y0 y1
          have HC := Lib.hid (hC.step (by omega) huv)
          have oz := hz0.set (u + v) (u := (nth z (u + v) + nth x u * nth y v) % p) ⟨by omega, by omega⟩
          have o2 := ho20.kept (grown_set (g := gz) (p := u + v) (u := .int .i64 ((nth z (u + v) + nth x u * nth y v) % p))) hapx
          have o3 := ho30.kept (grown_set (g := gz) (p := u + v) (u := .int .i64 ((nth z (u + v) + nth x u * nth y v) % p))) hapy
          have hwN := hw0.setCell (p := ⟨gz, u + v, none⟩) hgz (.int .i64 ((nth z (u + v) + nth x u * nth y v) % p))
          have cp := X0.c0
          have EI := Lib.hid (show (u : Int) + (v : Int) = ((u + v : Nat) : Int) by omega)
          subst hA2 hA3
          simp only [← World.drew_is_drewN] at cz fz ca cb cp oz o2 o3 hwN
          clear hz0 ho20 ho30 X0 hw0 hz ho2 ho3 hw hC q5 q6 ia ib iz fa fb
          generalize nth z (u + v) = zz at *
          generalize hat : u + v = at_ at *
          have ei : (u : Int) + (v : Int) = (at_ : Int) := EI.out
          have ew : IntKind.i64.wrap (at_ : Int) = (at_ : Int) := IntWalk.i64_in _ (by omega)
          have hatI : (at_ : Int) < (L : Int) := by omega
          clear hat EI
          generalize nth x u = xx at *
          generalize nth y v = yy at *
          go_wp2
          refine region_last (P := Try.prog) (S := fun w' => w'.cell? ⟨gz, at_, none⟩ = some (.int .i64 zz) ∧ w'.cell? ⟨gA, u, none⟩ = some (.int .i64 xx) ∧ w'.cell? ⟨gB, v, none⟩ = some (.int .i64 yy) ∧ w'.cell? ⟨g, 0, none⟩ = some (.int .i64 p)) (by kernel_rfl) (by simp only [List.getLast?_cons_cons, List.getLast?_singleton]; rfl) (by dsimp only [List.dropLast]) (by kernel_rfl) ⟨cz, ca, cb, cp⟩ ?_
          intro hS
          refine wpAnyH_take (i := 0) (v := ?_) rfl (by kernel_rfl) (by kernel_rfl) (by kernel_rfl) (fun _ _ _ h => h) (Or.inl ⟨by rfl, ?_⟩) (by assumption) ?_
          rotate_left
          · (intro w hSw; (try dsimp only at hSw); go_simp; (try with_reducible rfl))
          simp only [Act.put, List.setIfInBounds_toArray, List.set_cons_zero, List.set_cons_succ]
          refine wpAnyH_take (i := 1) (v := ?_) rfl (by kernel_rfl) (by kernel_rfl) (by kernel_rfl) (fun _ _ _ h => h) (Or.inl ⟨by rfl, ?_⟩) (by assumption) ?_
          rotate_left
          · (intro w hSw; (try dsimp only at hSw); go_simp; (try with_reducible rfl))
          simp only [Act.put, List.setIfInBounds_toArray, List.set_cons_zero, List.set_cons_succ]
          refine wpAnyH_take (i := 2) (v := ?_) rfl (by kernel_rfl) (by kernel_rfl) (by kernel_rfl) (fun _ _ _ h => h) (Or.inl ⟨by rfl, ?_⟩) (by assumption) ?_
          rotate_left
          · (intro w hSw; (try dsimp only at hSw); go_simp; (try with_reducible rfl))
          simp only [Act.put, List.setIfInBounds_toArray, List.set_cons_zero, List.set_cons_succ]
          refine wpAnyH_take (i := 3) (v := ?_) rfl (by kernel_rfl) (by kernel_rfl) (by kernel_rfl) (fun _ _ _ h => h) (Or.inl ⟨by rfl, ?_⟩) (by assumption) ?_
          rotate_left
          · (intro w hSw; (try dsimp only at hSw); go_simp; (try with_reducible rfl))
          simp only [Act.put, List.setIfInBounds_toArray, List.set_cons_zero, List.set_cons_succ]
          refine wpAnyH_take (i := 4) (v := ?_) rfl (by kernel_rfl) (by kernel_rfl) (by kernel_rfl) (fun _ _ _ h => h) (Or.inl ⟨by rfl, ?_⟩) (by assumption) ?_
          rotate_left
          · (intro w hSw; (try dsimp only at hSw); go_simp; (try with_reducible rfl))
          simp only [Act.put, List.setIfInBounds_toArray, List.set_cons_zero, List.set_cons_succ]
          refine wpAnyH_take (i := 5) (v := ?_) rfl (by kernel_rfl) (by kernel_rfl) (by kernel_rfl) (fun _ _ _ h => h) (Or.inl ⟨by rfl, ?_⟩) (by assumption) ?_
          rotate_left
          · (intro w hSw; (try dsimp only at hSw); go_simp; (try with_reducible rfl))
          simp only [Act.put, List.setIfInBounds_toArray, List.set_cons_zero, List.set_cons_succ]
          refine wpAnyH_take (i := 6) (v := ?_) rfl (by kernel_rfl) (by kernel_rfl) (by kernel_rfl) (fun _ _ _ h => h) (Or.inl ⟨by rfl, ?_⟩) (by assumption) ?_
          rotate_left
          · (intro w hSw; (try dsimp only at hSw); go_simp; (try with_reducible rfl))
          simp only [Act.put, List.setIfInBounds_toArray, List.set_cons_zero, List.set_cons_succ]
          refine wpAnyH_take (i := 7) (v := ?_) rfl (by kernel_rfl) (by kernel_rfl) (by kernel_rfl) (fun _ _ _ h => h) (Or.inl ⟨by rfl, ?_⟩) (by assumption) ?_
          rotate_left
          · (intro w hSw; (try dsimp only at hSw); go_simp; (try with_reducible rfl))
          simp only [Act.put, List.setIfInBounds_toArray, List.set_cons_zero, List.set_cons_succ]
          refine wpAnyH_take (i := 8) (v := ?_) rfl (by kernel_rfl) (by kernel_rfl) (by kernel_rfl) (fun _ _ _ h => h) (Or.inl ⟨by rfl, ?_⟩) (by assumption) ?_
          rotate_left
          · (intro w hSw; (try dsimp only at hSw); go_simp; (try with_reducible rfl))
          simp only [Act.put, List.setIfInBounds_toArray, List.set_cons_zero, List.set_cons_succ]
          refine wpAnyH_take (i := 9) (v := ?_) rfl (by kernel_rfl) (by kernel_rfl) (by kernel_rfl) (fun _ _ _ h => h) (Or.inl ⟨by rfl, ?_⟩) (by assumption) ?_
          rotate_left
          · (intro w hSw; (try dsimp only at hSw); go_simp; (try with_reducible rfl))
          simp only [Act.put, List.setIfInBounds_toArray, List.set_cons_zero, List.set_cons_succ]
          refine wpAnyH_take (i := 10) (v := ?_) rfl (by kernel_rfl) (by kernel_rfl) (by kernel_rfl) (fun _ _ _ h => h) (Or.inl ⟨by rfl, ?_⟩) (by assumption) ?_
          rotate_left
          · (intro w hSw; (try dsimp only at hSw); go_simp; (try with_reducible rfl))
          simp only [Act.put, List.setIfInBounds_toArray, List.set_cons_zero, List.set_cons_succ]
          refine wpAnyH_take (i := 11) (v := ?_) rfl (by kernel_rfl) (by kernel_rfl) (by kernel_rfl) (fun _ _ _ h => h) (Or.inl ⟨by rfl, ?_⟩) (by assumption) ?_
          rotate_left
          · (intro w hSw; (try dsimp only at hSw); go_simp; (try with_reducible rfl))
          simp only [Act.put, List.setIfInBounds_toArray, List.set_cons_zero, List.set_cons_succ]
          refine wpAnyH_take (i := 12) (v := ?_) rfl (by kernel_rfl) (by kernel_rfl) (by kernel_rfl) (fun _ _ _ h => h) (Or.inl ⟨by rfl, ?_⟩) (by assumption) ?_
          rotate_left
          · (intro w hSw; (try dsimp only at hSw); go_simp; (try with_reducible rfl))
          simp only [Act.put, List.setIfInBounds_toArray, List.set_cons_zero, List.set_cons_succ]
          refine wpAnyH_take (i := 13) (v := ?_) rfl (by kernel_rfl) (by kernel_rfl) (by kernel_rfl) (fun _ _ _ h => h) (Or.inl ⟨by rfl, ?_⟩) (by assumption) ?_
          rotate_left
          · (intro w hSw; (try dsimp only at hSw); go_simp; (try with_reducible rfl))
          simp only [Act.put, List.setIfInBounds_toArray, List.set_cons_zero, List.set_cons_succ]
          refine wpAnyH_take (i := 14) (v := ?_) rfl (by kernel_rfl) (by kernel_rfl) (by kernel_rfl) (fun _ _ _ h => h) (Or.inl ⟨by rfl, ?_⟩) (by assumption) ?_
          rotate_left
          · (intro w hSw; (try dsimp only at hSw); go_simp; (try with_reducible rfl))
          simp only [Act.put, List.setIfInBounds_toArray, List.set_cons_zero, List.set_cons_succ]
          refine wpAnyH_take (i := 15) (v := ?_) rfl (by kernel_rfl) (by kernel_rfl) (by kernel_rfl) (fun _ _ _ h => h) (Or.inl ⟨by rfl, ?_⟩) (by assumption) ?_
          rotate_left
          · (intro w hSw; (try dsimp only at hSw); go_simp; (try with_reducible rfl))
          simp only [Act.put, List.setIfInBounds_toArray, List.set_cons_zero, List.set_cons_succ]
          refine wpAnyH_take (i := 16) (v := ?_) rfl (by kernel_rfl) (by kernel_rfl) (by kernel_rfl) (fun _ _ _ h => h) (Or.inl ⟨by rfl, ?_⟩) (by assumption) ?_
          rotate_left
          · (intro w hSw; (try dsimp only at hSw); go_simp; (try with_reducible rfl))
          simp only [Act.put, List.setIfInBounds_toArray, List.set_cons_zero, List.set_cons_succ]
          refine wpAnyH_take (i := 17) (v := ?_) rfl (by kernel_rfl) (by kernel_rfl) (by kernel_rfl) (fun _ _ _ h => h) (Or.inl ⟨by rfl, ?_⟩) (by assumption) ?_
          rotate_left
          · (intro w hSw; (try dsimp only at hSw); go_simp; (try with_reducible rfl))
          simp only [Act.put, List.setIfInBounds_toArray, List.set_cons_zero, List.set_cons_succ]
          refine wpAnyH_take (i := 18) (v := ?_) rfl (by kernel_rfl) (by kernel_rfl) (by kernel_rfl) (fun _ _ _ h => h) (Or.inl ⟨by rfl, ?_⟩) (by assumption) ?_
          rotate_left
          · (intro w hSw; (try dsimp only at hSw); go_simp; (try with_reducible rfl))
          simp only [Act.put, List.setIfInBounds_toArray, List.set_cons_zero, List.set_cons_succ]
          refine wpAnyH_take (i := 19) (v := ?_) rfl (by kernel_rfl) (by kernel_rfl) (by kernel_rfl) (fun _ _ _ h => h) (Or.inl ⟨by rfl, ?_⟩) (by assumption) ?_
          rotate_left
          · (intro w hSw; (try dsimp only at hSw); go_simp; (try with_reducible rfl))
          simp only [Act.put, List.setIfInBounds_toArray, List.set_cons_zero, List.set_cons_succ]
          refine wpAnyH_take (i := 20) (v := ?_) rfl (by kernel_rfl) (by kernel_rfl) (by kernel_rfl) (fun _ _ _ h => h) (Or.inl ⟨by rfl, ?_⟩) (by assumption) ?_
          rotate_left
          · (intro w hSw; (try dsimp only at hSw); go_simp; (try with_reducible rfl))
          simp only [Act.put, List.setIfInBounds_toArray, List.set_cons_zero, List.set_cons_succ]
          refine wpAnyH_take (i := 21) (v := ?_) rfl (by kernel_rfl) (by kernel_rfl) (by kernel_rfl) (fun _ _ _ h => h) (Or.inl ⟨by rfl, ?_⟩) (by assumption) ?_
          rotate_left
          · (intro w hSw; (try dsimp only at hSw); go_simp; (try with_reducible rfl))
          simp only [Act.put, List.setIfInBounds_toArray, List.set_cons_zero, List.set_cons_succ]
          refine wpAnyH_take (i := 22) (v := ?_) rfl (by kernel_rfl) (by kernel_rfl) (by kernel_rfl) (fun _ _ _ h => h) (Or.inl ⟨by rfl, ?_⟩) (by assumption) ?_
          rotate_left
          · (intro w hSw; (try dsimp only at hSw); go_simp; (try with_reducible rfl))
          simp only [Act.put, List.setIfInBounds_toArray, List.set_cons_zero, List.set_cons_succ]
          refine wpAnyH_take (i := 23) (v := ?_) rfl (by kernel_rfl) (by kernel_rfl) (by kernel_rfl) (fun _ _ _ h => h) (Or.inl ⟨by rfl, ?_⟩) (by assumption) ?_
          rotate_left
          · (intro w hSw; (try dsimp only at hSw); go_simp; (try with_reducible rfl))
          simp only [Act.put, List.setIfInBounds_toArray, List.set_cons_zero, List.set_cons_succ]
          refine wpAnyH_take (i := 24) (v := ?_) rfl (by kernel_rfl) (by kernel_rfl) (by kernel_rfl) (fun _ _ _ h => h) (Or.inl ⟨by rfl, ?_⟩) (by assumption) ?_
          rotate_left
          · (intro w hSw; (try dsimp only at hSw); go_simp; (try with_reducible rfl))
          simp only [Act.put, List.setIfInBounds_toArray, List.set_cons_zero, List.set_cons_succ]
          refine wpAnyH_take (i := 25) (v := ?_) rfl (by kernel_rfl) (by kernel_rfl) (by kernel_rfl) (fun _ _ _ h => h) (Or.inl ⟨by rfl, ?_⟩) (by assumption) ?_
          rotate_left
          · (intro w hSw; (try dsimp only at hSw); go_simp; (try with_reducible rfl))
          simp only [Act.put, List.setIfInBounds_toArray, List.set_cons_zero, List.set_cons_succ]
          simp only [List.getElem_toArray, List.getElem_cons_succ, List.getElem_cons_zero]
          refine wpAnyH_done (by kernel_rfl) ?_ _
          dsimp only [atEnd]
          clear hS q1 q2 q4 q7 ew
          generalize wr.drew = W at *
          go_wp2
          go_roundw
          case rel => exact ⟨v + 1, _, by omega, by go_num, HC.out, oz, o2, o3, hwN⟩
          case measure => simp [intOf]; omega
        · obtain rfl : k = v := by omega
          have hC2 := hC.row
          go_wp2
          go_roundw
          case rel => exact ⟨u + 1, z, by omega, by go_num, hC2, hz, ho2, ho3, hw⟩
          case measure => simp [intOf]; omega
    · obtain rfl : k = u := by omega
      have HR := Lib.hid (HMul.out z L hLk hC)
      have hDz := hC.dg
      have HLR := Lib.hid (remP_len HFl.out (z := z) (by rw [hC.len]; exact hLk))
      have hw1 := hw.trans (below_drewn' _ wr 1)
      have HX := Lib.hid (H.out.keep hw1)
      have hz1 := hz.below (below_drewn wr 1)
      have hrm := l03Rest_any (some ⟨gz, 0, none⟩) L L z A n c f p (wr.drewN 1) hz1.reads (hr.keep hw1) hDz HFl.out.dg hp (by omega) (by omega) (by omega) (by omega) hn1
      have hmin : min (n - 1) L ≤ 7 := by omega
      have HLK := Lib.hid (show ∀ L : Nat, L = k → p ^ L ≤ 1000000 from fun L e => by subst e; have := HFl.out.q64; omega)
      have x0 := (H.out.keep hw).c0
      have x2 := (H.out.keep hw).c2
      clear hz1 hC ho2 ho3 hz hDz
      go_wp2
      clear x0 x2
      go_region_held_law (fun w' => w'.cell? ⟨g, 0, none⟩ = some (.int .i64 p) ∧ w'.cell? ⟨g, 2, none⟩ = some (.slice A n c))
        (first | exact ⟨HX.out.c0, HX.out.c2⟩ | exact ⟨HX5.out.c0, HX5.out.c2⟩)
        ((first
          | (go_at_call 125; refine hrm.mono ?_; rintro e w5 ⟨A5, c5, rfl, ho5, hb5, hD5⟩; have HX5 := Lib.hid (HX.out.keep hb5); have hw5 := hw1.trans (hb5.mono hw1.size))
          | (go_at_call 124; refine (l03Number_any A5 (min (n - 1) L) c5 _ p _ ho5.reads hD5 hp (by omega) (HLK.out _ HLR.out) (by omega)).mono ?_; rintro e w6 ⟨rfl, rfl⟩)))
      all_goals
        go_wp2
        go_ret
        exact ⟨by rw [HR.out]; rfl, hw5⟩
end Go.Proofs.Ytcnjlkabdfcjdaa
