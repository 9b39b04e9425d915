/- The product of two squares. No condition beyond those stated. -/
import Derived.Test.YtcnjlkabdfcjdaaZAK
import Derived.Deep.CutRange
set_option linter.unusedVariables false
set_option linter.unusedSimpArgs false
namespace Go.Proofs.Ytcnjlkabdfcjdaa
open Go.RowKit

/-- a place of rows that are read -/
theorem RR.get2 {w : World} {A : Option Addr} {n : Nat} {zss : List (List Int)} (h : RR w A n zss) {i j : Nat} (hi : i < n) (hj : j < (row zss i).length) :
    ∃ ad b m c, A = some ad ∧ w.cell? (ad.add i) = some (.slice (some b) m c) ∧ (row zss i).length = m ∧ m ≤ c ∧ c ≤ 9223372036854775807 ∧ w.cell? (b.add j) = some (.int .i64 (nth (row zss i) j)) ∧ I64 (nth (row zss i) j) := by
  obtain ⟨ad, B, m, c, ha, hc, h1, h2, h3⟩ := h.get hi
  have hm : (row zss i).length = m := h3.len
  obtain ⟨b, hb, h4, h5⟩ := h3.get (k := j) (by omega)
  subst hb
  exact ⟨ad, b, m, c, ha, hc, hm, h1, h2, h4, h5⟩
set_option maxRecDepth 100000 in
set_option maxHeartbeats 1000000 in
theorem l06Product_any (A : Option Addr) (n c : Nat) (a : List (List Int)) (B : Option Addr) (m d : Nat) (b : List (List Int)) (w : World) (ha : RR w A n a) (hb : RR w B m b) (n1 : 1 ≤ n) (n2 : n ≤ 16) (m1 : 1 ≤ m) (m2 : m ≤ 16)
    (ra : ∀ i, i < n → (row a i).length = n) (rb : ∀ i, i < m → (row b i).length = m) (va : ∀ i j, i < n → j < n → 0 ≤ nth (row a i) j ∧ nth (row a i) j ≤ 1024) (vb : ∀ i j, i < m → j < m → 0 ≤ nth (row b i) j ∧ nth (row b i) j ≤ 1024) :
    Calls Try.prog 94 #[.slice A n c, .slice B m d] w (RetR w 30 2 (prodP a b)) := by
  have hla := Lib.hid ha.len
  have hlb := Lib.hid hb.len
  have hnm : n * m ≤ 16 * 16 := Nat.mul_le_mul n2 m2
  have HNM := Lib.hid (show (n : Int) * (m : Int) = ((n * m : Nat) : Int) by simp)
  have HVA := Lib.hid va
  have HVB := Lib.hid vb
  have HRA := Lib.hid ra
  have HRB := Lib.hid rb
  clear va vb ra rb
  have HD : Hid (∀ x, x < n * m → x / m < n ∧ x % m < m) := Lib.hid fun x hx => ⟨Nat.div_lt_of_lt_mul (by rw [Nat.mul_comm]; exact hx), Nat.mod_lt _ (by omega)⟩
  generalize hN : n * m = N at *
  go_enter Try.func94, Try.ntmps94
  go_wp2_with fail
  rw [HNM.out]
  refine (l06Zero_any N N w (by omega) (by omega)).mono ?_
  rintro e w1 ⟨G, N1, cg, rfl, ⟨vs, ho⟩, hw⟩
  obtain rfl : N1 = N := by rw [← ho.slen, zerosP_len]
  have HP : Hid (∀ u v, u < N1 → v < N1 → (fun u _ => u : Nat → Nat → Nat) u v < N1 ∧ (fun _ v => v : Nat → Nat → Nat) u v < N1) := Lib.hid fun u v hu hv => ⟨hu, hv⟩
  have HI : Hid (∀ u v u' v', u < N1 → v < N1 → u' < N1 → v' < N1 → (fun u _ => u : Nat → Nat → Nat) u v = (fun u _ => u : Nat → Nat → Nat) u' v' → (fun _ v => v : Nat → Nat → Nat) u v = (fun _ v => v : Nat → Nat → Nat) u' v' → u = u' ∧ v = v') := Lib.hid fun u v u' v' _ _ _ _ e1 e2 => ⟨e1, e2⟩
  obtain ⟨f, hf⟩ : ∃ f : Nat → Nat → Int, f = fun x y => (m : Int) * nth (row a (x / m)) (y / m) + nth (row b (x % m)) (y % m) := ⟨_, rfl⟩
  have HF := Lib.hid hf; clear hf
  have S : FSt w w1 N1 G cg vs (fun u _ => u) (fun _ v => v) f 0 0 := ⟨⟨_, ho, Fil.start _ _ _ _⟩, hw⟩
  clear ho hw
  go_wp2
  go_loopw [8] (fun i wr => ∃ x : Nat, x ≤ N1 ∧ i = .int .i64 x ∧ FSt w wr N1 G cg vs (fun u _ => u) (fun _ v => v) f x 0) (fun i _ => N1 - (intOf i).toNat)
  case atStart => exact ⟨0, Nat.zero_le _, rfl, S⟩
  case round =>
    clear S
    obtain ⟨x, hx, rfl, S⟩ := hrel
    by_cases hlt : x < N1
    · have hlx : (x : Int) < (n : Int) * (m : Int) := by rw [HNM.out]; omega
      have hl0 : (0 : Int) < (n : Int) * (m : Int) := by rw [HNM.out]; omega
      go_wp2
      go_loopw [9] (fun i wr => ∃ y : Nat, y ≤ N1 ∧ i = .int .i64 y ∧ FSt w wr N1 G cg vs (fun u _ => u) (fun _ v => v) f x y) (fun i _ => N1 - (intOf i).toNat)
      case atStart => exact ⟨0, Nat.zero_le _, rfl, S⟩
      case round =>
        clear S
        obtain ⟨y, hy, rfl, S⟩ := hrel
        by_cases hly : y < N1
        · have hlz : (y : Int) < (n : Int) * (m : Int) := by rw [HNM.out]; omega
          obtain ⟨x1, x2⟩ := HD.out x hlt
          obtain ⟨y1, y2⟩ := HD.out y hly
          have hbw := S.b
          obtain ⟨aa, ra, ma, ca, rfl, ca1, ea, ka1, ka2, ca2, ia⟩ := (ha.keep hbw).get2 x1 (by rw [HRA.out _ x1]; exact y1)
          obtain ⟨ab, rb, mb, cb, rfl, cb1, eb, kb1, kb2, cb2, ib⟩ := (hb.keep hbw).get2 x2 (by rw [HRB.out _ x2]; exact y2)
          have hva := HVA.out _ _ x1 y1
          have hvb := HVB.out _ _ x2 y2
          have HFv := Lib.hid (congrFun (congrFun HF.out x) y)
          obtain rfl : n = ma := by rw [← ea, HRA.out _ x1]
          obtain rfl : m = mb := by rw [← eb, HRB.out _ x2]
          have HQ := Lib.hid (show (x : Int) / (m : Int) = ((x / m : Nat) : Int) ∧ (x : Int) % (m : Int) = ((x % m : Nat) : Int) ∧ (y : Int) / (m : Int) = ((y / m : Nat) : Int) ∧ (y : Int) % (m : Int) = ((y % m : Nat) : Int) by omega)
          obtain ⟨g, r, k, rfl, c1, k1, k2, ⟨u, c2⟩, f2, hr, S⟩ := S.put hlt hly HP.out HI.out (by
            rw [HFv.out]
            have : (m : Int) * nth (row a (x / m)) (y / m) ≤ 16 * 1024 := Int.mul_le_mul (by omega) hva.2 hva.1 (by omega)
            have : 0 ≤ (m : Int) * nth (row a (x / m)) (y / m) := Int.mul_nonneg (by omega) hva.1
            unfold I64; omega)
          have n0 : ¬ m = 0 := by omega
          have q1 : (x : Int).tdiv m = ((x / m : Nat) : Int) := by rw [Int.tdiv_eq_ediv_of_nonneg (by omega)]; exact HQ.out.1
          have q2 : (x : Int).tmod m = ((x % m : Nat) : Int) := by rw [Int.tmod_eq_emod_of_nonneg (by omega)]; exact HQ.out.2.1
          have q3 : (y : Int).tdiv m = ((y / m : Nat) : Int) := by rw [Int.tdiv_eq_ediv_of_nonneg (by omega)]; exact HQ.out.2.2.1
          have q4 : (y : Int).tmod m = ((y % m : Nat) : Int) := by rw [Int.tmod_eq_emod_of_nonneg (by omega)]; exact HQ.out.2.2.2
          have q9 : (m : Int) * nth (row a (x / m)) (y / m) ≤ 16 * 1024 := Int.mul_le_mul (by omega) hva.2 hva.1 (by omega)
          have q8 : 0 ≤ (m : Int) * nth (row a (x / m)) (y / m) := Int.mul_nonneg (by omega) hva.1
          rw [HFv.out] at S
          generalize nth (row a (x / m)) (y / m) = av at *
          generalize nth (row b (x % m)) (y % m) = bv at *
          generalize x / m = xd at *
          generalize x % m = xm at *
          generalize y / m = yd at *
          generalize y % m = ym at *
          have HS := Lib.hid (S.below (below_drewn _ 1))
          clear S HFv HQ
          simp only [← World.drew_is_drewN] at HS
          have q5 : IntKind.i64.wrap (m * av) = m * av := IntWalk.i64_in _ (by omega)
          have q6 : IntKind.i64.wrap (m * av + bv) = m * av + bv := IntWalk.i64_in _ (by omega)
          have w1 : IntKind.i64.wrap (xd : Int) = xd := IntWalk.i64_in _ (by omega)
          have w2 : IntKind.i64.wrap (xm : Int) = xm := IntWalk.i64_in _ (by omega)
          have w3 : IntKind.i64.wrap (yd : Int) = yd := IntWalk.i64_in _ (by omega)
          have w4 : IntKind.i64.wrap (ym : Int) = ym := IntWalk.i64_in _ (by omega)
          have Hq := Lib.hid (And.intro q8 q9)
          clear q8 q9
          go_wp2
          refine region_last (P := Try.prog) (S := (fun w' => w'.cell? ⟨g, x, none⟩ = some (.slice (some ⟨r, 0, none⟩) N1 k) ∧ w'.cell? (aa.add xd) = some (.slice (some ra) n ca) ∧ w'.cell? (ra.add yd) = some (.int .i64 av) ∧ w'.cell? (ab.add xm) = some (.slice (some rb) m cb) ∧ w'.cell? (rb.add ym) = some (.int .i64 bv))) (by kernel_rfl) (by simp only [List.getLast?_cons_cons, List.getLast?_singleton]; rfl) (by dsimp only [List.dropLast]) (by kernel_rfl) ?_ ?_
          · exact ⟨by simpa using c1, by simpa using ca1, by simpa using ca2, by simpa using cb1, by simpa using cb2⟩
          intro hS
          refine wpAnyH_take (i := 0) (v := ?_) rfl (by kernel_rfl) (by kernel_rfl) (by kernel_rfl) (fun _ _ _ h => h) (Or.inl ⟨by rfl, ?_⟩) (by assumption) ?_
          rotate_left
          · (intro w hSw; (try dsimp only at hSw); go_simp; (try with_reducible rfl))
          simp only [Act.put, List.setIfInBounds_toArray, List.set_cons_zero, List.set_cons_succ]
          refine wpAnyH_take (i := 1) (v := ?_) rfl (by kernel_rfl) (by kernel_rfl) (by kernel_rfl) (fun _ _ _ h => h) (Or.inl ⟨by rfl, ?_⟩) (by assumption) ?_
          rotate_left
          · (intro w hSw; (try dsimp only at hSw); go_simp; (try with_reducible rfl))
          simp only [Act.put, List.setIfInBounds_toArray, List.set_cons_zero, List.set_cons_succ]
          refine wpAnyH_take (i := 2) (v := ?_) rfl (by kernel_rfl) (by kernel_rfl) (by kernel_rfl) (fun _ _ _ h => h) (Or.inl ⟨by rfl, ?_⟩) (by assumption) ?_
          rotate_left
          · (intro w hSw; (try dsimp only at hSw); go_simp; (try with_reducible rfl))
          simp only [Act.put, List.setIfInBounds_toArray, List.set_cons_zero, List.set_cons_succ]
          refine wpAnyH_take (i := 3) (v := ?_) rfl (by kernel_rfl) (by kernel_rfl) (by kernel_rfl) (fun _ _ _ h => h) (Or.inl ⟨by rfl, ?_⟩) (by assumption) ?_
          rotate_left
          · (intro w hSw; (try dsimp only at hSw); go_simp; (try with_reducible rfl))
          simp only [Act.put, List.setIfInBounds_toArray, List.set_cons_zero, List.set_cons_succ]
          refine wpAnyH_take (i := 4) (v := ?_) rfl (by kernel_rfl) (by kernel_rfl) (by kernel_rfl) (fun _ _ _ h => h) (Or.inl ⟨by rfl, ?_⟩) (by assumption) ?_
          rotate_left
          · (intro w hSw; (try dsimp only at hSw); go_simp; (try with_reducible rfl))
          simp only [Act.put, List.setIfInBounds_toArray, List.set_cons_zero, List.set_cons_succ]
          refine wpAnyH_take (i := 5) (v := ?_) rfl (by kernel_rfl) (by kernel_rfl) (by kernel_rfl) (fun _ _ _ h => h) (Or.inl ⟨by rfl, ?_⟩) (by assumption) ?_
          rotate_left
          · (intro w hSw; (try dsimp only at hSw); go_simp; (try with_reducible rfl))
          simp only [Act.put, List.setIfInBounds_toArray, List.set_cons_zero, List.set_cons_succ]
          refine wpAnyH_take (i := 6) (v := ?_) rfl (by kernel_rfl) (by kernel_rfl) (by kernel_rfl) (fun _ _ _ h => h) (Or.inl ⟨by rfl, ?_⟩) (by assumption) ?_
          rotate_left
          · (intro w hSw; (try dsimp only at hSw); go_simp; (try with_reducible rfl))
          simp only [Act.put, List.setIfInBounds_toArray, List.set_cons_zero, List.set_cons_succ]
          refine wpAnyH_take (i := 7) (v := ?_) rfl (by kernel_rfl) (by kernel_rfl) (by kernel_rfl) (fun _ _ _ h => h) (Or.inl ⟨by rfl, ?_⟩) (by assumption) ?_
          rotate_left
          · (intro w hSw; (try dsimp only at hSw); go_simp; (try with_reducible rfl))
          simp only [Act.put, List.setIfInBounds_toArray, List.set_cons_zero, List.set_cons_succ]
          refine wpAnyH_take (i := 8) (v := ?_) rfl (by kernel_rfl) (by kernel_rfl) (by kernel_rfl) (fun _ _ _ h => h) (Or.inl ⟨by rfl, ?_⟩) (by assumption) ?_
          rotate_left
          · (intro w hSw; (try dsimp only at hSw); go_simp; (try with_reducible rfl))
          simp only [Act.put, List.setIfInBounds_toArray, List.set_cons_zero, List.set_cons_succ]
          refine wpAnyH_take (i := 9) (v := ?_) rfl (by kernel_rfl) (by kernel_rfl) (by kernel_rfl) (fun _ _ _ h => h) (Or.inl ⟨by rfl, ?_⟩) (by assumption) ?_
          rotate_left
          · (intro w hSw; (try dsimp only at hSw); go_simp; (try with_reducible rfl))
          simp only [Act.put, List.setIfInBounds_toArray, List.set_cons_zero, List.set_cons_succ]
          refine wpAnyH_take (i := 10) (v := ?_) rfl (by kernel_rfl) (by kernel_rfl) (by kernel_rfl) (fun _ _ _ h => h) (Or.inl ⟨by rfl, ?_⟩) (by assumption) ?_
          rotate_left
          · (intro w hSw; (try dsimp only at hSw); go_simp; (try with_reducible rfl))
          simp only [Act.put, List.setIfInBounds_toArray, List.set_cons_zero, List.set_cons_succ]
          refine wpAnyH_take (i := 11) (v := ?_) rfl (by kernel_rfl) (by kernel_rfl) (by kernel_rfl) (fun _ _ _ h => h) (Or.inl ⟨by rfl, ?_⟩) (by assumption) ?_
          rotate_left
          · (intro w hSw; (try dsimp only at hSw); go_simp; (try with_reducible rfl))
          simp only [Act.put, List.setIfInBounds_toArray, List.set_cons_zero, List.set_cons_succ]
          refine wpAnyH_take (i := 12) (v := ?_) rfl (by kernel_rfl) (by kernel_rfl) (by kernel_rfl) (fun _ _ _ h => h) (Or.inl ⟨by rfl, ?_⟩) (by assumption) ?_
          rotate_left
          · (intro w hSw; (try dsimp only at hSw); go_simp; (try with_reducible rfl))
          simp only [Act.put, List.setIfInBounds_toArray, List.set_cons_zero, List.set_cons_succ]
          refine wpAnyH_take (i := 13) (v := ?_) rfl (by kernel_rfl) (by kernel_rfl) (by kernel_rfl) (fun _ _ _ h => h) (Or.inl ⟨by rfl, ?_⟩) (by assumption) ?_
          rotate_left
          · (intro w hSw; (try dsimp only at hSw); go_simp; (try with_reducible rfl))
          simp only [Act.put, List.setIfInBounds_toArray, List.set_cons_zero, List.set_cons_succ]
          refine wpAnyH_take (i := 14) (v := ?_) rfl (by kernel_rfl) (by kernel_rfl) (by kernel_rfl) (fun _ _ _ h => h) (Or.inl ⟨by rfl, ?_⟩) (by assumption) ?_
          rotate_left
          · (intro w hSw; (try dsimp only at hSw); go_simp; (try with_reducible rfl))
          simp only [Act.put, List.setIfInBounds_toArray, List.set_cons_zero, List.set_cons_succ]
          refine wpAnyH_take (i := 15) (v := ?_) rfl (by kernel_rfl) (by kernel_rfl) (by kernel_rfl) (fun _ _ _ h => h) (Or.inl ⟨by rfl, ?_⟩) (by assumption) ?_
          rotate_left
          · (intro w hSw; (try dsimp only at hSw); go_simp; (try with_reducible rfl))
          simp only [Act.put, List.setIfInBounds_toArray, List.set_cons_zero, List.set_cons_succ]
          refine wpAnyH_take (i := 16) (v := ?_) rfl (by kernel_rfl) (by kernel_rfl) (by kernel_rfl) (fun _ _ _ h => h) (Or.inl ⟨by rfl, ?_⟩) (by assumption) ?_
          rotate_left
          · (intro w hSw; (try dsimp only at hSw); go_simp; (try with_reducible rfl))
          simp only [Act.put, List.setIfInBounds_toArray, List.set_cons_zero, List.set_cons_succ]
          refine wpAnyH_take (i := 17) (v := ?_) rfl (by kernel_rfl) (by kernel_rfl) (by kernel_rfl) (fun _ _ _ h => h) (Or.inl ⟨by rfl, ?_⟩) (by assumption) ?_
          rotate_left
          · (intro w hSw; (try dsimp only at hSw); go_simp; (try with_reducible rfl))
          simp only [Act.put, List.setIfInBounds_toArray, List.set_cons_zero, List.set_cons_succ]
          refine wpAnyH_take (i := 18) (v := ?_) rfl (by kernel_rfl) (by kernel_rfl) (by kernel_rfl) (fun _ _ _ h => h) (Or.inl ⟨by rfl, ?_⟩) (by assumption) ?_
          rotate_left
          · (intro w hSw; (try dsimp only at hSw); go_simp; (try with_reducible rfl))
          simp only [Act.put, List.setIfInBounds_toArray, List.set_cons_zero, List.set_cons_succ]
          refine wpAnyH_take (i := 19) (v := ?_) rfl (by kernel_rfl) (by kernel_rfl) (by kernel_rfl) (fun _ _ _ h => h) (Or.inl ⟨by rfl, ?_⟩) (by assumption) ?_
          rotate_left
          · (intro w hSw; (try dsimp only at hSw); go_simp; (try with_reducible rfl))
          simp only [Act.put, List.setIfInBounds_toArray, List.set_cons_zero, List.set_cons_succ]
          refine wpAnyH_take (i := 20) (v := ?_) rfl (by kernel_rfl) (by kernel_rfl) (by kernel_rfl) (fun _ _ _ h => h) (Or.inl ⟨by rfl, ?_⟩) (by assumption) ?_
          rotate_left
          · (intro w hSw; (try dsimp only at hSw); go_simp; (try with_reducible rfl))
          simp only [Act.put, List.setIfInBounds_toArray, List.set_cons_zero, List.set_cons_succ]
          refine wpAnyH_take (i := 21) (v := ?_) rfl (by kernel_rfl) (by kernel_rfl) (by kernel_rfl) (fun _ _ _ h => h) (Or.inl ⟨by rfl, ?_⟩) (by assumption) ?_
          rotate_left
          · (intro w hSw; (try dsimp only at hSw); go_simp; (try with_reducible rfl))
          simp only [Act.put, List.setIfInBounds_toArray, List.set_cons_zero, List.set_cons_succ]
          refine wpAnyH_take (i := 22) (v := ?_) rfl (by kernel_rfl) (by kernel_rfl) (by kernel_rfl) (fun _ _ _ h => h) (Or.inl ⟨by rfl, ?_⟩) (by assumption) ?_
          rotate_left
          · (intro w hSw; (try dsimp only at hSw); go_simp; (try with_reducible rfl))
          simp only [Act.put, List.setIfInBounds_toArray, List.set_cons_zero, List.set_cons_succ]
          refine wpAnyH_take (i := 23) (v := ?_) rfl (by kernel_rfl) (by kernel_rfl) (by kernel_rfl) (fun _ _ _ h => h) (Or.inl ⟨by rfl, ?_⟩) (by assumption) ?_
          rotate_left
          · (intro w hSw; (try dsimp only at hSw); go_simp; (try with_reducible rfl))
          simp only [Act.put, List.setIfInBounds_toArray, List.set_cons_zero, List.set_cons_succ]
          refine wpAnyH_take (i := 24) (v := ?_) rfl (by kernel_rfl) (by kernel_rfl) (by kernel_rfl) (fun _ _ _ h => h) (Or.inl ⟨by rfl, ?_⟩) (by assumption) ?_
          rotate_left
          · (intro w hSw; (try dsimp only at hSw); go_simp; (try with_reducible rfl))
          simp only [Act.put, List.setIfInBounds_toArray, List.set_cons_zero, List.set_cons_succ]
          refine wpAnyH_take (i := 25) (v := ?_) rfl (by kernel_rfl) (by kernel_rfl) (by kernel_rfl) (fun _ _ _ h => h) (Or.inl ⟨by rfl, ?_⟩) (by assumption) ?_
          rotate_left
          · (intro w hSw; (try dsimp only at hSw); go_simp; (try with_reducible rfl))
          simp only [Act.put, List.setIfInBounds_toArray, List.set_cons_zero, List.set_cons_succ]
          refine wpAnyH_take (i := 26) (v := ?_) rfl (by kernel_rfl) (by kernel_rfl) (by kernel_rfl) (fun _ _ _ h => h) (Or.inl ⟨by rfl, ?_⟩) (by assumption) ?_
          rotate_left
          · (intro w hSw; (try dsimp only at hSw); go_simp; (try with_reducible rfl))
          simp only [Act.put, List.setIfInBounds_toArray, List.set_cons_zero, List.set_cons_succ]
          refine wpAnyH_take (i := 27) (v := ?_) rfl (by kernel_rfl) (by kernel_rfl) (by kernel_rfl) (fun _ _ _ h => h) (Or.inl ⟨by rfl, ?_⟩) (by assumption) ?_
          rotate_left
          · (intro w hSw; (try dsimp only at hSw); go_simp; (try with_reducible rfl))
          simp only [Act.put, List.setIfInBounds_toArray, List.set_cons_zero, List.set_cons_succ]
          refine wpAnyH_take (i := 28) (v := ?_) rfl (by kernel_rfl) (by kernel_rfl) (by kernel_rfl) (fun _ _ _ h => h) (Or.inl ⟨by rfl, ?_⟩) (by assumption) ?_
          rotate_left
          · (intro w hSw; (try dsimp only at hSw); go_simp; (try with_reducible rfl))
          simp only [Act.put, List.setIfInBounds_toArray, List.set_cons_zero, List.set_cons_succ]
          refine wpAnyH_take (i := 29) (v := ?_) rfl (by kernel_rfl) (by kernel_rfl) (by kernel_rfl) (fun _ _ _ h => h) (Or.inl ⟨by rfl, ?_⟩) (by assumption) ?_
          rotate_left
          · (intro w hSw; (try dsimp only at hSw); go_simp; (try with_reducible rfl))
          simp only [Act.put, List.setIfInBounds_toArray, List.set_cons_zero, List.set_cons_succ]
          refine wpAnyH_take (i := 30) (v := ?_) rfl (by kernel_rfl) (by kernel_rfl) (by kernel_rfl) (fun _ _ _ h => h) (Or.inl ⟨by rfl, ?_⟩) (by assumption) ?_
          rotate_left
          · (intro w hSw; (try dsimp only at hSw); go_simp; (try with_reducible rfl))
          simp only [Act.put, List.setIfInBounds_toArray, List.set_cons_zero, List.set_cons_succ]
          refine wpAnyH_done (by kernel_rfl) ?_ _
          dsimp only [atEnd]
          clear hS
          go_wp2
          go_roundw
          case rel => exact ⟨y + 1, by omega, by go_num, HS.out⟩
          case measure => simp [intOf]; omega
        · have hlz : ¬ (y : Int) < (n : Int) * (m : Int) := by rw [HNM.out]; omega
          obtain rfl : y = N1 := by omega
          have S := S.line
          go_wp2
          go_roundw
          case rel => exact ⟨x + 1, by omega, by go_num, S⟩
          case measure => simp [intOf]; omega
    · have hlx : ¬ (x : Int) < (n : Int) * (m : Int) := by rw [HNM.out]; omega
      obtain rfl : x = N1 := by omega
      obtain ⟨⟨zss, ho, hF⟩, hb'⟩ := S
      have := hF.tab
      go_wp2
      go_ret
      refine ⟨_, _, _, rfl, ⟨vs, ?_⟩, hb'⟩
      rw [this, HF.out] at ho
      unfold prodP
      rw [hla.out, hlb.out, hN]
      exact ho
end Go.Proofs.Ytcnjlkabdfcjdaa
/- Isotopes of a square, and a square that a law draws. No condition beyond those stated. -/
namespace Go.Proofs.Ytcnjlkabdfcjdaa
open Go.RowKit

/-- what a permutation has at a place -/
theorem perm_at_ {p : List Int} {n : Nat} (hp : Perm p) (hl : p.length = n) {i : Nat} (hi : i < n) : ∃ u : Nat, nth p i = u ∧ u < n ∧ (nth p i).toNat = u := by
  have := perm_lt hp (v := i) (by omega)
  exact ⟨(nth p i).toNat, this.2.symm, by omega, rfl⟩
set_option maxRecDepth 100000 in
set_option maxHeartbeats 1000000 in
theorem l06IsotopeG_any (A : Option Addr) (n c : Nat) (a : List (List Int)) (R : Option Addr) (rc : Nat) (r : List Int) (K : Option Addr) (kc : Nat) (kk : List Int) (Z : Option Addr) (zc : Nat) (z : List Int) (w : World) (ha : RR w A n a) (hR : RI w R n r) (hK : RI w K n kk) (hZ : RI w Z n z)
    (n2 : n ≤ 10) (hq : ∀ x, x < n → (row a x).length = n ∧ ∀ y, y < n → 0 ≤ nth (row a x) y ∧ nth (row a x) y < (n : Int)) (hr : Perm r) (hk : Perm kk) (hz : Perm z) :
    Calls Try.prog 87 #[.slice A n c, .slice R n rc, .slice K n kc, .slice Z n zc] w (fun e w' => ∃ A' c' b, e = .returned (.slice A' n c') ∧ OR w' w.heap.size 30 2 A' n c' b ∧ Fil n (fun x _ => (nth r x).toNat) (fun _ y => (nth kk y).toNat) (fun x y => nth z (nth (row a x) y).toNat) b n 0 ∧ Below w.heap.size w w') := by
  have hl := Lib.hid ha.len
  have lr := Lib.hid hR.len
  have lk := Lib.hid hK.len
  have lz := Lib.hid hZ.len
  have HQ := Lib.hid hq
  have HP : Hid (∀ u v, u < n → v < n → (fun x _ => (nth r x).toNat : Nat → Nat → Nat) u v < n ∧ (fun _ y => (nth kk y).toNat : Nat → Nat → Nat) u v < n) := Lib.hid fun u v hu hv => by
    obtain ⟨p, e1, h1, e2⟩ := perm_at_ hr lr.out hu
    obtain ⟨q, e3, h3, e4⟩ := perm_at_ hk lk.out hv
    exact ⟨by simp only [e2]; exact h1, by simp only [e4]; exact h3⟩
  have HI : Hid (∀ u v u' v', u < n → v < n → u' < n → v' < n → (fun x _ => (nth r x).toNat : Nat → Nat → Nat) u v = (fun x _ => (nth r x).toNat : Nat → Nat → Nat) u' v' → (fun _ y => (nth kk y).toNat : Nat → Nat → Nat) u v = (fun _ y => (nth kk y).toNat : Nat → Nat → Nat) u' v' → u = u' ∧ v = v') := Lib.hid fun u v u' v' hu hv hu' hv' e1 e2 => by
    obtain ⟨p, a1, h1, a2⟩ := perm_at_ hr lr.out hu
    obtain ⟨q, a3, h3, a4⟩ := perm_at_ hk lk.out hv
    obtain ⟨p', b1, h1', b2⟩ := perm_at_ hr lr.out hu'
    obtain ⟨q', b3, h3', b4⟩ := perm_at_ hk lk.out hv'
    simp only [a2, b2, a4, b4] at e1 e2
    exact ⟨perm_inj hr (by rw [lr.out]; exact hu) (by rw [lr.out]; exact hu') (by omega), perm_inj hk (by rw [lk.out]; exact hv) (by rw [lk.out]; exact hv') (by omega)⟩
  have Hr := Lib.hid hr
  have Hk := Lib.hid hk
  have Hz := Lib.hid hz
  clear hr hk hz hq
  obtain ⟨f, hf⟩ : ∃ f : Nat → Nat → Int, f = fun x y => nth z (nth (row a x) y).toNat := ⟨_, rfl⟩
  obtain ⟨p1, hp1⟩ : ∃ p1 : Nat → Nat → Nat, p1 = fun x _ => (nth r x).toNat := ⟨_, rfl⟩
  obtain ⟨p2, hp2⟩ : ∃ p2 : Nat → Nat → Nat, p2 = fun _ y => (nth kk y).toNat := ⟨_, rfl⟩
  rw [← hf, ← hp1, ← hp2]
  rw [← hp1, ← hp2] at HP HI
  have HF := Lib.hid hf
  have H1 := Lib.hid hp1
  have H2 := Lib.hid hp2
  clear hf hp1 hp2
  go_enter Try.func87, Try.ntmps87
  go_wp2_with fail
  refine (l06Zero_any n n w (by omega) (by omega)).mono ?_
  rintro e w1 ⟨G, N1, cg, rfl, ⟨vs, ho⟩, hw⟩
  obtain rfl : N1 = n := by rw [← ho.slen, zerosP_len]
  have S : FSt w w1 N1 G cg vs p1 p2 f 0 0 := ⟨⟨_, ho, Fil.start _ _ _ _⟩, hw⟩
  clear ho hw
  go_wp2
  go_loopw [11] (fun i wr => ∃ x : Nat, x ≤ N1 ∧ i = .int .i64 x ∧ FSt w wr N1 G cg vs p1 p2 f x 0) (fun i _ => N1 - (intOf i).toNat)
  case atStart => exact ⟨0, Nat.zero_le _, rfl, S⟩
  case round =>
    clear S
    obtain ⟨x, hx, rfl, S⟩ := hrel
    by_cases hlt : x < N1
    · go_wp2
      go_loopw [12] (fun i wr => ∃ y : Nat, y ≤ N1 ∧ i = .int .i64 y ∧ FSt w wr N1 G cg vs p1 p2 f x y) (fun i _ => N1 - (intOf i).toNat)
      case atStart => exact ⟨0, Nat.zero_le _, rfl, S⟩
      case round =>
        clear S
        obtain ⟨y, hy, rfl, S⟩ := hrel
        by_cases hly : y < N1
        · have hbw := S.b
          have hsr := HQ.out x hlt
          obtain ⟨aa, ra, ma, ca, rfl, ca1, ea, ka1, ka2, ca2, ia⟩ := (ha.keep hbw).get2 hlt (j := y) (by rw [hsr.1]; exact hly)
          obtain ⟨ar, rfl, cr, -⟩ := (hR.keep hbw).get hlt
          obtain ⟨ak, rfl, ck, -⟩ := (hK.keep hbw).get hly
          obtain ⟨vx, e1, v1, e1'⟩ := perm_at_ Hr.out lr.out hlt
          obtain ⟨vy, e2, v2, e2'⟩ := perm_at_ Hk.out lk.out hly
          obtain ⟨vs', e3, v3, e3'⟩ : ∃ u : Nat, nth (row a x) y = (u : Int) ∧ u < N1 ∧ (nth (row a x) y).toNat = u := ⟨(nth (row a x) y).toNat, by have := hsr.2 y hly; omega, by have := hsr.2 y hly; omega, rfl⟩
          obtain ⟨az, rfl, cz, iz⟩ := (hZ.keep hbw).get v3
          obtain rfl : N1 = ma := by rw [← ea, hsr.1]
          obtain ⟨g, rr, k, rfl, c1, k1, k2, ⟨u, c2⟩, f2, hr, S⟩ := S.put hlt hly HP.out HI.out (by
            rw [HF.out]; dsimp only; rw [e3']; exact iz)
          have hp1x : p1 x y = vx := by rw [H1.out]; exact e1'
          have hp2x : p2 x y = vy := by rw [H2.out]; exact e2'
          have hfx : f x y = nth z vs' := by rw [HF.out]; dsimp only; rw [e3']
          rw [hp1x] at c1
          rw [hp2x] at c2 f2
          rw [hp2x, hfx] at S
          rw [e1] at cr
          rw [e2] at ck
          rw [e3] at ca2
          have HS := Lib.hid (S.below (below_drewn _ 1))
          clear S hp1x hp2x hfx e1 e2 e3 e1' e2' e3' ia hsr ea
          simp only [← World.drew_is_drewN] at HS
          generalize nth z vs' = val at *
          have w1 : IntKind.i64.wrap (vx : Int) = vx := IntWalk.i64_in _ (by omega)
          have w2 : IntKind.i64.wrap (vy : Int) = vy := IntWalk.i64_in _ (by omega)
          have w3 : IntKind.i64.wrap (vs' : Int) = vs' := IntWalk.i64_in _ (by omega)
          have hxn : (x : Int) < N1 := by omega
          go_wp2
          refine region_last (P := Try.prog) (S := (fun w' => w'.cell? ⟨g, vx, none⟩ = some (.slice (some ⟨rr, 0, none⟩) N1 k) ∧ w'.cell? (aa.add x) = some (.slice (some ra) N1 ca) ∧ w'.cell? (ra.add y) = some (.int .i64 vs') ∧ w'.cell? (ar.add x) = some (.int .i64 vx) ∧ w'.cell? (ak.add y) = some (.int .i64 vy) ∧ w'.cell? (az.add vs') = some (.int .i64 val))) (by kernel_rfl) (by simp only [List.getLast?_cons_cons, List.getLast?_singleton]; rfl) (by dsimp only [List.dropLast]) (by kernel_rfl) ?_ ?_
          · exact ⟨by simpa using c1, by simpa using ca1, by simpa using ca2, by simpa using cr, by simpa using ck, by simpa using cz⟩
          intro hS
          refine wpAnyH_take (i := 0) (v := ?_) rfl (by kernel_rfl) (by kernel_rfl) (by kernel_rfl) (fun _ _ _ h => h) (Or.inl ⟨by rfl, ?_⟩) (by assumption) ?_
          rotate_left
          · (intro w hSw; (try dsimp only at hSw); go_simp; (try with_reducible rfl))
          simp only [Act.put, List.setIfInBounds_toArray, List.set_cons_zero, List.set_cons_succ]
          refine wpAnyH_take (i := 1) (v := ?_) rfl (by kernel_rfl) (by kernel_rfl) (by kernel_rfl) (fun _ _ _ h => h) (Or.inl ⟨by rfl, ?_⟩) (by assumption) ?_
          rotate_left
          · (intro w hSw; (try dsimp only at hSw); go_simp; (try with_reducible rfl))
          simp only [Act.put, List.setIfInBounds_toArray, List.set_cons_zero, List.set_cons_succ]
          refine wpAnyH_take (i := 2) (v := ?_) rfl (by kernel_rfl) (by kernel_rfl) (by kernel_rfl) (fun _ _ _ h => h) (Or.inl ⟨by rfl, ?_⟩) (by assumption) ?_
          rotate_left
          · (intro w hSw; (try dsimp only at hSw); go_simp; (try with_reducible rfl))
          simp only [Act.put, List.setIfInBounds_toArray, List.set_cons_zero, List.set_cons_succ]
          refine wpAnyH_take (i := 3) (v := ?_) rfl (by kernel_rfl) (by kernel_rfl) (by kernel_rfl) (fun _ _ _ h => h) (Or.inl ⟨by rfl, ?_⟩) (by assumption) ?_
          rotate_left
          · (intro w hSw; (try dsimp only at hSw); go_simp; (try with_reducible rfl))
          simp only [Act.put, List.setIfInBounds_toArray, List.set_cons_zero, List.set_cons_succ]
          refine wpAnyH_take (i := 4) (v := ?_) rfl (by kernel_rfl) (by kernel_rfl) (by kernel_rfl) (fun _ _ _ h => h) (Or.inl ⟨by rfl, ?_⟩) (by assumption) ?_
          rotate_left
          · (intro w hSw; (try dsimp only at hSw); go_simp; (try with_reducible rfl))
          simp only [Act.put, List.setIfInBounds_toArray, List.set_cons_zero, List.set_cons_succ]
          refine wpAnyH_take (i := 5) (v := ?_) rfl (by kernel_rfl) (by kernel_rfl) (by kernel_rfl) (fun _ _ _ h => h) (Or.inl ⟨by rfl, ?_⟩) (by assumption) ?_
          rotate_left
          · (intro w hSw; (try dsimp only at hSw); go_simp; (try with_reducible rfl))
          simp only [Act.put, List.setIfInBounds_toArray, List.set_cons_zero, List.set_cons_succ]
          refine wpAnyH_take (i := 6) (v := ?_) rfl (by kernel_rfl) (by kernel_rfl) (by kernel_rfl) (fun _ _ _ h => h) (Or.inl ⟨by rfl, ?_⟩) (by assumption) ?_
          rotate_left
          · (intro w hSw; (try dsimp only at hSw); go_simp; (try with_reducible rfl))
          simp only [Act.put, List.setIfInBounds_toArray, List.set_cons_zero, List.set_cons_succ]
          refine wpAnyH_take (i := 7) (v := ?_) rfl (by kernel_rfl) (by kernel_rfl) (by kernel_rfl) (fun _ _ _ h => h) (Or.inl ⟨by rfl, ?_⟩) (by assumption) ?_
          rotate_left
          · (intro w hSw; (try dsimp only at hSw); go_simp; (try with_reducible rfl))
          simp only [Act.put, List.setIfInBounds_toArray, List.set_cons_zero, List.set_cons_succ]
          refine wpAnyH_take (i := 8) (v := ?_) rfl (by kernel_rfl) (by kernel_rfl) (by kernel_rfl) (fun _ _ _ h => h) (Or.inl ⟨by rfl, ?_⟩) (by assumption) ?_
          rotate_left
          · (intro w hSw; (try dsimp only at hSw); go_simp; (try with_reducible rfl))
          simp only [Act.put, List.setIfInBounds_toArray, List.set_cons_zero, List.set_cons_succ]
          refine wpAnyH_take (i := 9) (v := ?_) rfl (by kernel_rfl) (by kernel_rfl) (by kernel_rfl) (fun _ _ _ h => h) (Or.inl ⟨by rfl, ?_⟩) (by assumption) ?_
          rotate_left
          · (intro w hSw; (try dsimp only at hSw); go_simp; (try with_reducible rfl))
          simp only [Act.put, List.setIfInBounds_toArray, List.set_cons_zero, List.set_cons_succ]
          refine wpAnyH_take (i := 10) (v := ?_) rfl (by kernel_rfl) (by kernel_rfl) (by kernel_rfl) (fun _ _ _ h => h) (Or.inl ⟨by rfl, ?_⟩) (by assumption) ?_
          rotate_left
          · (intro w hSw; (try dsimp only at hSw); go_simp; (try with_reducible rfl))
          simp only [Act.put, List.setIfInBounds_toArray, List.set_cons_zero, List.set_cons_succ]
          refine wpAnyH_take (i := 11) (v := ?_) rfl (by kernel_rfl) (by kernel_rfl) (by kernel_rfl) (fun _ _ _ h => h) (Or.inl ⟨by rfl, ?_⟩) (by assumption) ?_
          rotate_left
          · (intro w hSw; (try dsimp only at hSw); go_simp; (try with_reducible rfl))
          simp only [Act.put, List.setIfInBounds_toArray, List.set_cons_zero, List.set_cons_succ]
          refine wpAnyH_take (i := 12) (v := ?_) rfl (by kernel_rfl) (by kernel_rfl) (by kernel_rfl) (fun _ _ _ h => h) (Or.inl ⟨by rfl, ?_⟩) (by assumption) ?_
          rotate_left
          · (intro w hSw; (try dsimp only at hSw); go_simp; (try with_reducible rfl))
          simp only [Act.put, List.setIfInBounds_toArray, List.set_cons_zero, List.set_cons_succ]
          refine wpAnyH_take (i := 13) (v := ?_) rfl (by kernel_rfl) (by kernel_rfl) (by kernel_rfl) (fun _ _ _ h => h) (Or.inl ⟨by rfl, ?_⟩) (by assumption) ?_
          rotate_left
          · (intro w hSw; (try dsimp only at hSw); go_simp; (try with_reducible rfl))
          simp only [Act.put, List.setIfInBounds_toArray, List.set_cons_zero, List.set_cons_succ]
          refine wpAnyH_take (i := 14) (v := ?_) rfl (by kernel_rfl) (by kernel_rfl) (by kernel_rfl) (fun _ _ _ h => h) (Or.inl ⟨by rfl, ?_⟩) (by assumption) ?_
          rotate_left
          · (intro w hSw; (try dsimp only at hSw); go_simp; (try with_reducible rfl))
          simp only [Act.put, List.setIfInBounds_toArray, List.set_cons_zero, List.set_cons_succ]
          refine wpAnyH_take (i := 15) (v := ?_) rfl (by kernel_rfl) (by kernel_rfl) (by kernel_rfl) (fun _ _ _ h => h) (Or.inl ⟨by rfl, ?_⟩) (by assumption) ?_
          rotate_left
          · (intro w hSw; (try dsimp only at hSw); go_simp; (try with_reducible rfl))
          simp only [Act.put, List.setIfInBounds_toArray, List.set_cons_zero, List.set_cons_succ]
          refine wpAnyH_take (i := 16) (v := ?_) rfl (by kernel_rfl) (by kernel_rfl) (by kernel_rfl) (fun _ _ _ h => h) (Or.inl ⟨by rfl, ?_⟩) (by assumption) ?_
          rotate_left
          · (intro w hSw; (try dsimp only at hSw); go_simp; (try with_reducible rfl))
          simp only [Act.put, List.setIfInBounds_toArray, List.set_cons_zero, List.set_cons_succ]
          refine wpAnyH_take (i := 17) (v := ?_) rfl (by kernel_rfl) (by kernel_rfl) (by kernel_rfl) (fun _ _ _ h => h) (Or.inl ⟨by rfl, ?_⟩) (by assumption) ?_
          rotate_left
          · (intro w hSw; (try dsimp only at hSw); go_simp; (try with_reducible rfl))
          simp only [Act.put, List.setIfInBounds_toArray, List.set_cons_zero, List.set_cons_succ]
          refine wpAnyH_take (i := 18) (v := ?_) rfl (by kernel_rfl) (by kernel_rfl) (by kernel_rfl) (fun _ _ _ h => h) (Or.inl ⟨by rfl, ?_⟩) (by assumption) ?_
          rotate_left
          · (intro w hSw; (try dsimp only at hSw); go_simp; (try with_reducible rfl))
          simp only [Act.put, List.setIfInBounds_toArray, List.set_cons_zero, List.set_cons_succ]
          refine wpAnyH_take (i := 19) (v := ?_) rfl (by kernel_rfl) (by kernel_rfl) (by kernel_rfl) (fun _ _ _ h => h) (Or.inl ⟨by rfl, ?_⟩) (by assumption) ?_
          rotate_left
          · (intro w hSw; (try dsimp only at hSw); go_simp; (try with_reducible rfl))
          simp only [Act.put, List.setIfInBounds_toArray, List.set_cons_zero, List.set_cons_succ]
          refine wpAnyH_take (i := 20) (v := ?_) rfl (by kernel_rfl) (by kernel_rfl) (by kernel_rfl) (fun _ _ _ h => h) (Or.inl ⟨by rfl, ?_⟩) (by assumption) ?_
          rotate_left
          · (intro w hSw; (try dsimp only at hSw); go_simp; (try with_reducible rfl))
          simp only [Act.put, List.setIfInBounds_toArray, List.set_cons_zero, List.set_cons_succ]
          refine wpAnyH_take (i := 21) (v := ?_) rfl (by kernel_rfl) (by kernel_rfl) (by kernel_rfl) (fun _ _ _ h => h) (Or.inl ⟨by rfl, ?_⟩) (by assumption) ?_
          rotate_left
          · (intro w hSw; (try dsimp only at hSw); go_simp; (try with_reducible rfl))
          simp only [Act.put, List.setIfInBounds_toArray, List.set_cons_zero, List.set_cons_succ]
          refine wpAnyH_done (by kernel_rfl) ?_ _
          dsimp only [atEnd]
          clear hS
          go_wp2
          go_roundw
          case rel => exact ⟨y + 1, by omega, by go_num, HS.out⟩
          case measure => simp [intOf]; omega
        · obtain rfl : y = N1 := by omega
          have S := S.line
          go_wp2
          go_roundw
          case rel => exact ⟨x + 1, by omega, by go_num, S⟩
          case measure => simp [intOf]; omega
    · obtain rfl : x = N1 := by omega
      obtain ⟨⟨zss, ho, hF⟩, hb'⟩ := S
      go_wp2
      go_ret
      exact ⟨_, _, _, rfl, ⟨vs, ho⟩, hF, hb'⟩
set_option maxRecDepth 100000 in
set_option maxHeartbeats 1000000 in
theorem l06Isotope_any (A : Option Addr) (n c : Nat) (a : List (List Int)) (R : Option Addr) (rc : Nat) (r : List Int) (K : Option Addr) (kc : Nat) (kk : List Int) (Z : Option Addr) (zc : Nat) (z : List Int) (w : World) (ha : RR w A n a) (hR : RI w R n r) (hK : RI w K n kk) (hZ : RI w Z n z)
    (hq : Square a) (hr : Perm r) (hk : Perm kk) (hz : Perm z) :
    Calls Try.prog 87 #[.slice A n c, .slice R n rc, .slice K n kc, .slice Z n zc] w (fun e w' => ∃ A' c' b, e = .returned (.slice A' n c') ∧ OR w' w.heap.size 30 2 A' n c' b ∧ Fil n (fun x _ => (nth r x).toNat) (fun _ y => (nth kk y).toNat) (fun x y => nth z (nth (row a x) y).toNat) b n 0 ∧ Below w.heap.size w w') := by
  exact l06IsotopeG_any A n c a R rc r K kc kk Z zc z w ha hR hK hZ (by have := ha.len; have := hq.2.1; omega) (fun x hx => by
    have hl := ha.len
    obtain ⟨h1, h2⟩ := hq.2.2.1 x (by omega)
    refine ⟨by rw [h1, hl], fun y hy => ?_⟩
    have := h2.bd y (by rw [h1, hl]; exact hy)
    rw [h1, hl] at this
    exact this) hr hk hz
end Go.Proofs.Ytcnjlkabdfcjdaa
