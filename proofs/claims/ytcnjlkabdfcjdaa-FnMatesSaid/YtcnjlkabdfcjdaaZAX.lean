/- Squares that a law draws: products, and rows exchanged along a cycle. No condition beyond those stated. -/
import Derived.Test.YtcnjlkabdfcjdaaZAK
import Derived.Test.YtcnjlkabdfcjdaaZAM
import Derived.Deep.CutRange
set_option linter.unusedVariables false
set_option linter.unusedSimpArgs false
namespace Go.Proofs.Ytcnjlkabdfcjdaa
open Go.RowKit

/-- a call that draws a square -/
def RetSq (w : World) (g p n k : Nat) (e : Ending) (w' : World) : Prop := ∃ A c zss q, e = .returned (.slice A n c) ∧ OR w' w.heap.size 30 2 A n c zss ∧ zss.length = n ∧ Square zss ∧ SrW w w' g q ∧ q ≤ p + k
set_option maxRecDepth 100000 in
set_option maxHeartbeats 1000000 in
theorem l06Switch_any (g p n : Nat) (A : Option Addr) (c B : Nat) (a : List (List Int)) (w : World) (hs : Src w g p) (hp : p ≤ 281474976710656) (hB : g < B) (ha : OR w B 30 2 A n c a) (hq : Square a) :
    Calls Try.prog 95 #[.pointer (some ⟨g, 0, none⟩), .slice A n c] w (RetSq w g p n 6) := by
  have hl := ha.len
  subst hl
  have n1 := hq.1
  have n2 := hq.2.1
  have S0 := SrW.start hs
  have HS := Lib.hid hq
  have hcl : cells a ≤ 1099511627776 := by
    have := cells_under (l := a) (k := a.length) (fun r hr => by
      obtain ⟨i, hi, rfl⟩ := List.getElem_of_mem hr
      have := (HS.out.2.2.1 i hi).1
      rw [row_get hi] at this
      omega)
    have h2 : a.length * a.length ≤ 10 * 10 := Nat.mul_le_mul n2 n2
    omega
  go_enter Try.func95, Try.ntmps95
  go_wp2_with fail
  refine (l06Own_any A a.length c a w ha.reads (by omega) hcl).mono ?_
  rintro e w1 ⟨A', n', c', rfl, ⟨vs, ho⟩, hb⟩
  obtain rfl : n' = a.length := by rw [← ho.slen]
  have ha := ha.below hb
  have S := S0.step hb
  clear S0 hs hb hcl hq
  go_wp2_with fail
  refine (pick_any g p a.length _ S.src (by omega) (by omega) (by omega)).mono ?_
  rintro e w2 ⟨x, q2, rfl, x0, x1, hq2, hs2, hg2⟩
  have ha := ha.keptB hg2 hB
  have ho := ho.keptB hg2 S.gl
  have S := S.next hs2 hg2
  clear hs2 hg2
  go_wp2_with fail
  refine (pick_any g q2 a.length _ S.src (by omega) (by omega) (by omega)).mono ?_
  rintro e w3 ⟨z, q3, rfl, z0, z1, hq3, hs3, hg3⟩
  have ha := ha.keptB hg3 hB
  have ho := ho.keptB hg3 S.gl
  have S := S.next hs3 hg3
  clear hs3 hg3
  obtain ⟨x, rfl⟩ := Int.eq_ofNat_of_zero_le x0
  obtain ⟨z, rfl⟩ := Int.eq_ofNat_of_zero_le z0
  by_cases hxz : x = z
  · have hxe : ((x : Int) == (z : Int)) = true := by simp [hxz]
    clear hxz
    go_wp2
    go_ret
    exact ⟨_, _, _, _, rfl, ⟨vs, ho⟩, rfl, HS.out, S, by omega⟩
  have hxe : ((x : Int) == (z : Int)) = false := by simp; omega
  have HXZ := Lib.hid hxz
  have hx : x < a.length := by omega
  have hz : z < a.length := by omega
  clear hxz x0 x1 z0 z1
  go_wp2_with fail
  refine (pick_any g q3 a.length _ S.src (by omega) (by omega) (by omega)).mono ?_
  rintro e w4 ⟨y, q4, rfl, y0, y1, hq4, hs4, hg4⟩
  have ha := ha.keptB hg4 hB
  have ho := ho.keptB hg4 S.gl
  have S := S.next hs4 hg4
  clear hs4 hg4
  obtain ⟨y, rfl⟩ := Int.eq_ofNat_of_zero_le y0
  have hy : y < a.length := by omega
  obtain ⟨va, hva⟩ := ha
  obtain ⟨gA, rA, mA, kA, hA⟩ := hva.at2 (i := x) (j := y) hx (by rw [(HS.out.2.2.1 x hx).1]; exact hy)
  obtain ⟨rfl, a1, -, a3, a4, a5, a6, -, -, -, a7, -⟩ := hA
  obtain rfl : mA = a.length := by rw [← a3, (HS.out.2.2.1 x hx).1]
  have hC := Cyc.start (z := z) HS.out hx hy
  have hfb := sq_bnd HS.out hx hy
  have ho : ORv w4 w.heap.size 30 2 A' a.length c' vs (swS a x z []) := by rw [swS_nil HS.out]; exact ho
  generalize nth (row a x) y = first at *
  clear hva a3 y0 y1
  go_wp2
  clear a1 a4 a5 a6 a7
  go_loopw [9, 11] (fun yv kv wr => ∃ (y : Nat) (S : List Nat), yv = .int .i64 y ∧ kv = .int .i64 S.length ∧ Cyc a x z first S y ∧ ORv wr w.heap.size 30 2 A' a.length c' vs (swS a x z S) ∧ SrW w wr g q4) (fun _ kv _ => a.length - (intOf kv).toNat)
  case atStart => exact ⟨y, [], rfl, rfl, hC, ho, S⟩
  case round =>
    clear hC ho S hy
    obtain ⟨y, T, rfl, rfl, hC, ho, S⟩ := hrel
    have hlt := hC.short
    have hy := hC.yl
    have e1 : nth (row (swS a x z T) x) y = nth (row a x) y := by rw [swS_nth hx hy, hC.at_y]
    have e2 : nth (row (swS a x z T) z) y = nth (row a z) y := by rw [swS_nth hz hy, hC.at_y]
    have b1 := sq_bnd HS.out hx hy
    have b2 := sq_bnd HS.out hz hy
    obtain ⟨g1, r1, m1, k1, h1⟩ := ho.at2 (i := x) (j := y) hx (by rw [swS_rlen hx]; exact hy)
    obtain ⟨g2, r2, m2, k2, h2⟩ := ho.at2 (i := z) (j := y) hz (by rw [swS_rlen hz]; exact hy)
    obtain ⟨rfl, c1, -, d1, d2, d3, d4, d5, d6, -, d7, d8⟩ := h1
    obtain ⟨hg, c2, -, f1, f2, f3, f4, -, -, -, f7, -⟩ := h2
    cases hg
    obtain rfl : m1 = a.length := by rw [← d1, swS_rlen hx]
    obtain rfl : m2 = a.length := by rw [← f1, swS_rlen hz]
    rw [e1] at d4
    rw [e2] at f4
    have o1 := d8 (nth (row a z) y) (by unfold I64; omega)
    obtain ⟨g3, r3, m3, k3, h3⟩ := o1.at2 (i := z) (j := y) hz (by
      rw [row_set (by rw [swS_len]; exact hz), if_neg (by intro h; exact HXZ.out h), swS_rlen hz]; exact hy)
    obtain ⟨hg, u1, -, u3, u4, u5, u6, u7, u8, -, -, u9⟩ := h3
    cases hg
    have hm3 : m3 = a.length := by rw [← u3, row_set (by rw [swS_len]; exact hz), if_neg (by intro h; exact HXZ.out h), swS_rlen hz]
    subst hm3
    have o2 := u9 (nth (row a x) y) (by unfold I64; omega)
    have hstep := swS_step hx hz HXZ.out hy hC.ys
    rw [hstep] at o2
    have S2 := (S.far (grown_set (g := r1) (p := y) (u := .int .i64 (nth (row a z) y))) (fun b e => by injection e with e; omega)).far (grown_set (g := r3) (p := y) (u := .int .i64 (nth (row a x) y))) (fun b e => by injection e with e; omega)
    have hcl : Hid (nth (row a z) y = first → Square (swS a x z (y :: T))) := Lib.hid fun h => hC.closed HS.out hx hz HXZ.out h
    have hnx : Hid (nth (row a z) y ≠ first → ∃ v, v < a.length ∧ v ≠ y ∧ swN a x z (y :: T) x v = nth (row a z) y ∧ (∀ i, i < a.length → i ≠ y → swN a x z (y :: T) x i = nth (row a z) y → i = v) ∧ Cyc a x z first (y :: T) v) := Lib.hid fun h => hC.next HS.out hx hz HXZ.out hfb h
    clear S ho hC o1 d1 d7 d8 f1 f7 u3 u9 hstep e1 e2
    generalize nth (row a z) y = down at *
    generalize nth (row a x) y = up at *
    by_cases hd : down = first
    · have hde : (down == first) = true := by simp [hd]
      have hsq := Lib.hid (hcl.out hd)
      clear hcl hnx hd
      go_wp2
      go_ret
      exact ⟨_, _, _, _, rfl, ⟨vs, o2⟩, swS_len _, hsq.out, S2, by omega⟩
    · have hde : (down == first) = false := by simp [hd]
      obtain ⟨v, v1, v2, v3, v4, v5⟩ := hnx.out hd
      have HV3 := Lib.hid v3
      have HV4 := Lib.hid v4
      have HV2 := Lib.hid v2
      clear hcl hnx hd v2 v3 v4
      have HO := Lib.hid o2
      have HS2 := Lib.hid S2
      clear o2 S2
      go_wp2
      clear c1 c2 d4 d5 f4 u1 u6 u7
      generalize ((wr.setCell ⟨r1, y, none⟩ (.int .i64 down)).setCell ⟨r3, y, none⟩ (.int .i64 up)) = W at *
      go_loop [14, 15] (fun nx i => ∃ j : Nat, j ≤ a.length ∧ i = .int .i64 j ∧ nx = .int .i64 ((if v < j then v else 0 : Nat) : Int)) (fun _ i => a.length - (intOf i).toNat)
      case atStart => exact ⟨0, Nat.zero_le _, rfl, rfl⟩
      case round =>
        obtain ⟨j, hj, rfl, rfl⟩ := hrel
        by_cases hlj : j < a.length
        · obtain ⟨g4, r4, m4, k4, h4⟩ := HO.out.at2 (i := x) (j := j) hx (by rw [swS_rlen hx]; exact hlj)
          obtain ⟨hg, t1, -, t3, t4, t5, t6, -, -, -, -, -⟩ := h4
          cases hg
          obtain rfl : m4 = a.length := by rw [← t3, swS_rlen hx]
          rw [swS_nth hx hlj] at t6
          clear t3
          by_cases hjy : j = y
          · subst hjy
            have HN := Lib.hid (show (if v < j then v else 0 : Nat) = (if v < j + 1 then v else 0) by have := HV2.out; split <;> split <;> omega)
            rw [HN.out]
            obtain ⟨nx, hnx⟩ : ∃ nx : Nat, nx = (if v < j + 1 then v else 0) := ⟨_, rfl⟩
            rw [← hnx]
            have HX := Lib.hid hnx
            clear hnx HN
            go_wp2
            go_round
            case rel => exact ⟨j + 1, by omega, by go_num, by rw [HX.out]⟩
            case measure => simp [intOf]; omega
          · have hje : ¬ ((j : Int) = (y : Int)) := by omega
            by_cases hjv : j = v
            · have hval : (swN a x z (y :: T) x j == down) = true := by rw [hjv, HV3.out]; simp
              have HN := Lib.hid (show (if v < j + 1 then v else 0 : Nat) = j by rw [if_pos (by omega)]; omega)
              clear hjy hjv
              go_wp2
              go_round
              case rel => exact ⟨j + 1, by omega, by go_num, by rw [HN.out]⟩
              case measure => simp [intOf]; omega
            · have hval : (swN a x z (y :: T) x j == down) = false := by
                simp only [beq_eq_false_iff_ne, ne_eq]
                intro h
                exact hjv (HV4.out j hlj hjy h)
              have HN := Lib.hid (show (if v < j then v else 0 : Nat) = (if v < j + 1 then v else 0) by split <;> split <;> omega)
              clear hjy hjv
              rw [HN.out]
              obtain ⟨nx, hnx⟩ : ∃ nx : Nat, nx = (if v < j + 1 then v else 0) := ⟨_, rfl⟩
              rw [← hnx]
              have HX := Lib.hid hnx
              clear hnx HN
              go_wp2
              go_round
              case rel => exact ⟨j + 1, by omega, by go_num, by rw [HX.out]⟩
              case measure => simp [intOf]; omega
        · obtain rfl : j = a.length := by omega
          rw [if_pos v1]
          go_wp2
          go_roundw
          case rel => exact ⟨v, y :: T, rfl, by go_num, v5, HO.out, HS2.out⟩
          case measure => simp [intOf]; omega
end Go.Proofs.Ytcnjlkabdfcjdaa
/- The product of two squares. No condition beyond those stated. -/
namespace Go.Proofs.Ytcnjlkabdfcjdaa
open Go.RowKit

/-- a place of rows that are read -/
theorem RR.get2 {w : World} {A : Option Addr} {n : Nat} {zss : List (List Int)} (h : RR w A n zss) {i j : Nat} (hi : i < n) (hj : j < (row zss i).length) :
    ∃ ad b m c, A = some ad ∧ w.cell? (ad.add i) = some (.slice (some b) m c) ∧ (row zss i).length = m ∧ m ≤ c ∧ c ≤ 9223372036854775807 ∧ w.cell? (b.add j) = some (.int .i64 (nth (row zss i) j)) ∧ I64 (nth (row zss i) j) := by
  obtain ⟨ad, B, m, c, ha, hc, h1, h2, h3⟩ := h.get hi
  have hm : (row zss i).length = m := h3.len
  obtain ⟨b, hb, h4, h5⟩ := h3.get (k := j) (by omega)
  subst hb
  exact ⟨ad, b, m, c, ha, hc, hm, h1, h2, h4, h5⟩
set_option maxRecDepth 100000 in
set_option maxHeartbeats 1000000 in
theorem l06Product_any (A : Option Addr) (n c : Nat) (a : List (List Int)) (B : Option Addr) (m d : Nat) (b : List (List Int)) (w : World) (ha : RR w A n a) (hb : RR w B m b) (n1 : 1 ≤ n) (n2 : n ≤ 16) (m1 : 1 ≤ m) (m2 : m ≤ 16)
    (ra : ∀ i, i < n → (row a i).length = n) (rb : ∀ i, i < m → (row b i).length = m) (va : ∀ i j, i < n → j < n → 0 ≤ nth (row a i) j ∧ nth (row a i) j ≤ 1024) (vb : ∀ i j, i < m → j < m → 0 ≤ nth (row b i) j ∧ nth (row b i) j ≤ 1024) :
    Calls Try.prog 94 #[.slice A n c, .slice B m d] w (RetR w 30 2 (prodP a b)) := by
  have hla := Lib.hid ha.len
  have hlb := Lib.hid hb.len
  have hnm : n * m ≤ 16 * 16 := Nat.mul_le_mul n2 m2
  have HNM := Lib.hid (show (n : Int) * (m : Int) = ((n * m : Nat) : Int) by simp)
  have HVA := Lib.hid va
  have HVB := Lib.hid vb
  have HRA := Lib.hid ra
  have HRB := Lib.hid rb
  clear va vb ra rb
  have HD : Hid (∀ x, x < n * m → x / m < n ∧ x % m < m) := Lib.hid fun x hx => ⟨Nat.div_lt_of_lt_mul (by rw [Nat.mul_comm]; exact hx), Nat.mod_lt _ (by omega)⟩
  generalize hN : n * m = N at *
  go_enter Try.func94, Try.ntmps94
  go_wp2_with fail
  rw [HNM.out]
  refine (l06Zero_any N N w (by omega) (by omega)).mono ?_
  rintro e w1 ⟨G, N1, cg, rfl, ⟨vs, ho⟩, hw⟩
  obtain rfl : N1 = N := by rw [← ho.slen, zerosP_len]
  have HP : Hid (∀ u v, u < N1 → v < N1 → (fun u _ => u : Nat → Nat → Nat) u v < N1 ∧ (fun _ v => v : Nat → Nat → Nat) u v < N1) := Lib.hid fun u v hu hv => ⟨hu, hv⟩
  have HI : Hid (∀ u v u' v', u < N1 → v < N1 → u' < N1 → v' < N1 → (fun u _ => u : Nat → Nat → Nat) u v = (fun u _ => u : Nat → Nat → Nat) u' v' → (fun _ v => v : Nat → Nat → Nat) u v = (fun _ v => v : Nat → Nat → Nat) u' v' → u = u' ∧ v = v') := Lib.hid fun u v u' v' _ _ _ _ e1 e2 => ⟨e1, e2⟩
  obtain ⟨f, hf⟩ : ∃ f : Nat → Nat → Int, f = fun x y => (m : Int) * nth (row a (x / m)) (y / m) + nth (row b (x % m)) (y % m) := ⟨_, rfl⟩
  have HF := Lib.hid hf; clear hf
  have S : FSt w w1 N1 G cg vs (fun u _ => u) (fun _ v => v) f 0 0 := ⟨⟨_, ho, Fil.start _ _ _ _⟩, hw⟩
  clear ho hw
  go_wp2
  go_loopw [8] (fun i wr => ∃ x : Nat, x ≤ N1 ∧ i = .int .i64 x ∧ FSt w wr N1 G cg vs (fun u _ => u) (fun _ v => v) f x 0) (fun i _ => N1 - (intOf i).toNat)
  case atStart => exact ⟨0, Nat.zero_le _, rfl, S⟩
  case round =>
    clear S
    obtain ⟨x, hx, rfl, S⟩ := hrel
    by_cases hlt : x < N1
    · have hlx : (x : Int) < (n : Int) * (m : Int) := by rw [HNM.out]; omega
      have hl0 : (0 : Int) < (n : Int) * (m : Int) := by rw [HNM.out]; omega
      go_wp2
      go_loopw [9] (fun i wr => ∃ y : Nat, y ≤ N1 ∧ i = .int .i64 y ∧ FSt w wr N1 G cg vs (fun u _ => u) (fun _ v => v) f x y) (fun i _ => N1 - (intOf i).toNat)
      case atStart => exact ⟨0, Nat.zero_le _, rfl, S⟩
      case round =>
        clear S
        obtain ⟨y, hy, rfl, S⟩ := hrel
        by_cases hly : y < N1
        · have hlz : (y : Int) < (n : Int) * (m : Int) := by rw [HNM.out]; omega
          obtain ⟨x1, x2⟩ := HD.out x hlt
          obtain ⟨y1, y2⟩ := HD.out y hly
          have hbw := S.b
          obtain ⟨aa, ra, ma, ca, rfl, ca1, ea, ka1, ka2, ca2, ia⟩ := (ha.keep hbw).get2 x1 (by rw [HRA.out _ x1]; exact y1)
          obtain ⟨ab, rb, mb, cb, rfl, cb1, eb, kb1, kb2, cb2, ib⟩ := (hb.keep hbw).get2 x2 (by rw [HRB.out _ x2]; exact y2)
          have hva := HVA.out _ _ x1 y1
          have hvb := HVB.out _ _ x2 y2
          have HFv := Lib.hid (congrFun (congrFun HF.out x) y)
          obtain rfl : n = ma := by rw [← ea, HRA.out _ x1]
          obtain rfl : m = mb := by rw [← eb, HRB.out _ x2]
          have HQ := Lib.hid (show (x : Int) / (m : Int) = ((x / m : Nat) : Int) ∧ (x : Int) % (m : Int) = ((x % m : Nat) : Int) ∧ (y : Int) / (m : Int) = ((y / m : Nat) : Int) ∧ (y : Int) % (m : Int) = ((y % m : Nat) : Int) by omega)
          obtain ⟨g, r, k, rfl, c1, k1, k2, ⟨u, c2⟩, f2, hr, S⟩ := S.put hlt hly HP.out HI.out (by
            rw [HFv.out]
            have : (m : Int) * nth (row a (x / m)) (y / m) ≤ 16 * 1024 := Int.mul_le_mul (by omega) hva.2 hva.1 (by omega)
            have : 0 ≤ (m : Int) * nth (row a (x / m)) (y / m) := Int.mul_nonneg (by omega) hva.1
            unfold I64; omega)
          have n0 : ¬ m = 0 := by omega
          have q1 : (x : Int).tdiv m = ((x / m : Nat) : Int) := by rw [Int.tdiv_eq_ediv_of_nonneg (by omega)]; exact HQ.out.1
          have q2 : (x : Int).tmod m = ((x % m : Nat) : Int) := by rw [Int.tmod_eq_emod_of_nonneg (by omega)]; exact HQ.out.2.1
          have q3 : (y : Int).tdiv m = ((y / m : Nat) : Int) := by rw [Int.tdiv_eq_ediv_of_nonneg (by omega)]; exact HQ.out.2.2.1
          have q4 : (y : Int).tmod m = ((y % m : Nat) : Int) := by rw [Int.tmod_eq_emod_of_nonneg (by omega)]; exact HQ.out.2.2.2
          have q9 : (m : Int) * nth (row a (x / m)) (y / m) ≤ 16 * 1024 := Int.mul_le_mul (by omega) hva.2 hva.1 (by omega)
          have q8 : 0 ≤ (m : Int) * nth (row a (x / m)) (y / m) := Int.mul_nonneg (by omega) hva.1
          rw [HFv.out] at S
          generalize nth (row a (x / m)) (y / m) = av at *
          generalize nth (row b (x % m)) (y % m) = bv at *
          generalize x / m = xd at *
          generalize x % m = xm at *
          generalize y / m = yd at *
          generalize y % m = ym at *
          have HS := Lib.hid (S.below (below_drewn _ 1))
          clear S HFv HQ
          simp only [← World.drew_is_drewN] at HS
          have q5 : IntKind.i64.wrap (m * av) = m * av := IntWalk.i64_in _ (by omega)
          have q6 : IntKind.i64.wrap (m * av + bv) = m * av + bv := IntWalk.i64_in _ (by omega)
          have w1 : IntKind.i64.wrap (xd : Int) = xd := IntWalk.i64_in _ (by omega)
          have w2 : IntKind.i64.wrap (xm : Int) = xm := IntWalk.i64_in _ (by omega)
          have w3 : IntKind.i64.wrap (yd : Int) = yd := IntWalk.i64_in _ (by omega)
          have w4 : IntKind.i64.wrap (ym : Int) = ym := IntWalk.i64_in _ (by omega)
          have Hq := Lib.hid (And.intro q8 q9)
          clear q8 q9
          go_wp2
          refine region_last (P := Try.prog) (S := (fun w' => w'.cell? ⟨g, x, none⟩ = some (.slice (some ⟨r, 0, none⟩) N1 k) ∧ w'.cell? (aa.add xd) = some (.slice (some ra) n ca) ∧ w'.cell? (ra.add yd) = some (.int .i64 av) ∧ w'.cell? (ab.add xm) = some (.slice (some rb) m cb) ∧ w'.cell? (rb.add ym) = some (.int .i64 bv))) (by kernel_rfl) (by simp only [List.getLast?_cons_cons, List.getLast?_singleton]; rfl) (by dsimp only [List.dropLast]) (by kernel_rfl) ?_ ?_
          · exact ⟨by simpa using c1, by simpa using ca1, by simpa using ca2, by simpa using cb1, by simpa using cb2⟩
          intro hS
          refine wpAnyH_take (i := 0) (v := ?_) rfl (by kernel_rfl) (by kernel_rfl) (by kernel_rfl) (fun _ _ _ h => h) (Or.inl ⟨by rfl, ?_⟩) (by assumption) ?_
          rotate_left
          · (intro w hSw; (try dsimp only at hSw); go_simp; (try with_reducible rfl))
          simp only [Act.put, List.setIfInBounds_toArray, List.set_cons_zero, List.set_cons_succ]
          refine wpAnyH_take (i := 1) (v := ?_) rfl (by kernel_rfl) (by kernel_rfl) (by kernel_rfl) (fun _ _ _ h => h) (Or.inl ⟨by rfl, ?_⟩) (by assumption) ?_
          rotate_left
          · (intro w hSw; (try dsimp only at hSw); go_simp; (try with_reducible rfl))
          simp only [Act.put, List.setIfInBounds_toArray, List.set_cons_zero, List.set_cons_succ]
          refine wpAnyH_take (i := 2) (v := ?_) rfl (by kernel_rfl) (by kernel_rfl) (by kernel_rfl) (fun _ _ _ h => h) (Or.inl ⟨by rfl, ?_⟩) (by assumption) ?_
          rotate_left
          · (intro w hSw; (try dsimp only at hSw); go_simp; (try with_reducible rfl))
          simp only [Act.put, List.setIfInBounds_toArray, List.set_cons_zero, List.set_cons_succ]
          refine wpAnyH_take (i := 3) (v := ?_) rfl (by kernel_rfl) (by kernel_rfl) (by kernel_rfl) (fun _ _ _ h => h) (Or.inl ⟨by rfl, ?_⟩) (by assumption) ?_
          rotate_left
          · (intro w hSw; (try dsimp only at hSw); go_simp; (try with_reducible rfl))
          simp only [Act.put, List.setIfInBounds_toArray, List.set_cons_zero, List.set_cons_succ]
          refine wpAnyH_take (i := 4) (v := ?_) rfl (by kernel_rfl) (by kernel_rfl) (by kernel_rfl) (fun _ _ _ h => h) (Or.inl ⟨by rfl, ?_⟩) (by assumption) ?_
          rotate_left
          · (intro w hSw; (try dsimp only at hSw); go_simp; (try with_reducible rfl))
          simp only [Act.put, List.setIfInBounds_toArray, List.set_cons_zero, List.set_cons_succ]
          refine wpAnyH_take (i := 5) (v := ?_) rfl (by kernel_rfl) (by kernel_rfl) (by kernel_rfl) (fun _ _ _ h => h) (Or.inl ⟨by rfl, ?_⟩) (by assumption) ?_
          rotate_left
          · (intro w hSw; (try dsimp only at hSw); go_simp; (try with_reducible rfl))
          simp only [Act.put, List.setIfInBounds_toArray, List.set_cons_zero, List.set_cons_succ]
          refine wpAnyH_take (i := 6) (v := ?_) rfl (by kernel_rfl) (by kernel_rfl) (by kernel_rfl) (fun _ _ _ h => h) (Or.inl ⟨by rfl, ?_⟩) (by assumption) ?_
          rotate_left
          · (intro w hSw; (try dsimp only at hSw); go_simp; (try with_reducible rfl))
          simp only [Act.put, List.setIfInBounds_toArray, List.set_cons_zero, List.set_cons_succ]
          refine wpAnyH_take (i := 7) (v := ?_) rfl (by kernel_rfl) (by kernel_rfl) (by kernel_rfl) (fun _ _ _ h => h) (Or.inl ⟨by rfl, ?_⟩) (by assumption) ?_
          rotate_left
          · (intro w hSw; (try dsimp only at hSw); go_simp; (try with_reducible rfl))
          simp only [Act.put, List.setIfInBounds_toArray, List.set_cons_zero, List.set_cons_succ]
          refine wpAnyH_take (i := 8) (v := ?_) rfl (by kernel_rfl) (by kernel_rfl) (by kernel_rfl) (fun _ _ _ h => h) (Or.inl ⟨by rfl, ?_⟩) (by assumption) ?_
          rotate_left
          · (intro w hSw; (try dsimp only at hSw); go_simp; (try with_reducible rfl))
          simp only [Act.put, List.setIfInBounds_toArray, List.set_cons_zero, List.set_cons_succ]
          refine wpAnyH_take (i := 9) (v := ?_) rfl (by kernel_rfl) (by kernel_rfl) (by kernel_rfl) (fun _ _ _ h => h) (Or.inl ⟨by rfl, ?_⟩) (by assumption) ?_
          rotate_left
          · (intro w hSw; (try dsimp only at hSw); go_simp; (try with_reducible rfl))
          simp only [Act.put, List.setIfInBounds_toArray, List.set_cons_zero, List.set_cons_succ]
          refine wpAnyH_take (i := 10) (v := ?_) rfl (by kernel_rfl) (by kernel_rfl) (by kernel_rfl) (fun _ _ _ h => h) (Or.inl ⟨by rfl, ?_⟩) (by assumption) ?_
          rotate_left
          · (intro w hSw; (try dsimp only at hSw); go_simp; (try with_reducible rfl))
          simp only [Act.put, List.setIfInBounds_toArray, List.set_cons_zero, List.set_cons_succ]
          refine wpAnyH_take (i := 11) (v := ?_) rfl (by kernel_rfl) (by kernel_rfl) (by kernel_rfl) (fun _ _ _ h => h) (Or.inl ⟨by rfl, ?_⟩) (by assumption) ?_
          rotate_left
          · (intro w hSw; (try dsimp only at hSw); go_simp; (try with_reducible rfl))
          simp only [Act.put, List.setIfInBounds_toArray, List.set_cons_zero, List.set_cons_succ]
          refine wpAnyH_take (i := 12) (v := ?_) rfl (by kernel_rfl) (by kernel_rfl) (by kernel_rfl) (fun _ _ _ h => h) (Or.inl ⟨by rfl, ?_⟩) (by assumption) ?_
          rotate_left
          · (intro w hSw; (try dsimp only at hSw); go_simp; (try with_reducible rfl))
          simp only [Act.put, List.setIfInBounds_toArray, List.set_cons_zero, List.set_cons_succ]
          refine wpAnyH_take (i := 13) (v := ?_) rfl (by kernel_rfl) (by kernel_rfl) (by kernel_rfl) (fun _ _ _ h => h) (Or.inl ⟨by rfl, ?_⟩) (by assumption) ?_
          rotate_left
          · (intro w hSw; (try dsimp only at hSw); go_simp; (try with_reducible rfl))
          simp only [Act.put, List.setIfInBounds_toArray, List.set_cons_zero, List.set_cons_succ]
          refine wpAnyH_take (i := 14) (v := ?_) rfl (by kernel_rfl) (by kernel_rfl) (by kernel_rfl) (fun _ _ _ h => h) (Or.inl ⟨by rfl, ?_⟩) (by assumption) ?_
          rotate_left
          · (intro w hSw; (try dsimp only at hSw); go_simp; (try with_reducible rfl))
          simp only [Act.put, List.setIfInBounds_toArray, List.set_cons_zero, List.set_cons_succ]
          refine wpAnyH_take (i := 15) (v := ?_) rfl (by kernel_rfl) (by kernel_rfl) (by kernel_rfl) (fun _ _ _ h => h) (Or.inl ⟨by rfl, ?_⟩) (by assumption) ?_
          rotate_left
          · (intro w hSw; (try dsimp only at hSw); go_simp; (try with_reducible rfl))
          simp only [Act.put, List.setIfInBounds_toArray, List.set_cons_zero, List.set_cons_succ]
          refine wpAnyH_take (i := 16) (v := ?_) rfl (by kernel_rfl) (by kernel_rfl) (by kernel_rfl) (fun _ _ _ h => h) (Or.inl ⟨by rfl, ?_⟩) (by assumption) ?_
          rotate_left
          · (intro w hSw; (try dsimp only at hSw); go_simp; (try with_reducible rfl))
          simp only [Act.put, List.setIfInBounds_toArray, List.set_cons_zero, List.set_cons_succ]
          refine wpAnyH_take (i := 17) (v := ?_) rfl (by kernel_rfl) (by kernel_rfl) (by kernel_rfl) (fun _ _ _ h => h) (Or.inl ⟨by rfl, ?_⟩) (by assumption) ?_
          rotate_left
          · (intro w hSw; (try dsimp only at hSw); go_simp; (try with_reducible rfl))
          simp only [Act.put, List.setIfInBounds_toArray, List.set_cons_zero, List.set_cons_succ]
          refine wpAnyH_take (i := 18) (v := ?_) rfl (by kernel_rfl) (by kernel_rfl) (by kernel_rfl) (fun _ _ _ h => h) (Or.inl ⟨by rfl, ?_⟩) (by assumption) ?_
          rotate_left
          · (intro w hSw; (try dsimp only at hSw); go_simp; (try with_reducible rfl))
          simp only [Act.put, List.setIfInBounds_toArray, List.set_cons_zero, List.set_cons_succ]
          refine wpAnyH_take (i := 19) (v := ?_) rfl (by kernel_rfl) (by kernel_rfl) (by kernel_rfl) (fun _ _ _ h => h) (Or.inl ⟨by rfl, ?_⟩) (by assumption) ?_
          rotate_left
          · (intro w hSw; (try dsimp only at hSw); go_simp; (try with_reducible rfl))
          simp only [Act.put, List.setIfInBounds_toArray, List.set_cons_zero, List.set_cons_succ]
          refine wpAnyH_take (i := 20) (v := ?_) rfl (by kernel_rfl) (by kernel_rfl) (by kernel_rfl) (fun _ _ _ h => h) (Or.inl ⟨by rfl, ?_⟩) (by assumption) ?_
          rotate_left
          · (intro w hSw; (try dsimp only at hSw); go_simp; (try with_reducible rfl))
          simp only [Act.put, List.setIfInBounds_toArray, List.set_cons_zero, List.set_cons_succ]
          refine wpAnyH_take (i := 21) (v := ?_) rfl (by kernel_rfl) (by kernel_rfl) (by kernel_rfl) (fun _ _ _ h => h) (Or.inl ⟨by rfl, ?_⟩) (by assumption) ?_
          rotate_left
          · (intro w hSw; (try dsimp only at hSw); go_simp; (try with_reducible rfl))
          simp only [Act.put, List.setIfInBounds_toArray, List.set_cons_zero, List.set_cons_succ]
          refine wpAnyH_take (i := 22) (v := ?_) rfl (by kernel_rfl) (by kernel_rfl) (by kernel_rfl) (fun _ _ _ h => h) (Or.inl ⟨by rfl, ?_⟩) (by assumption) ?_
          rotate_left
          · (intro w hSw; (try dsimp only at hSw); go_simp; (try with_reducible rfl))
          simp only [Act.put, List.setIfInBounds_toArray, List.set_cons_zero, List.set_cons_succ]
          refine wpAnyH_take (i := 23) (v := ?_) rfl (by kernel_rfl) (by kernel_rfl) (by kernel_rfl) (fun _ _ _ h => h) (Or.inl ⟨by rfl, ?_⟩) (by assumption) ?_
          rotate_left
          · (intro w hSw; (try dsimp only at hSw); go_simp; (try with_reducible rfl))
          simp only [Act.put, List.setIfInBounds_toArray, List.set_cons_zero, List.set_cons_succ]
          refine wpAnyH_take (i := 24) (v := ?_) rfl (by kernel_rfl) (by kernel_rfl) (by kernel_rfl) (fun _ _ _ h => h) (Or.inl ⟨by rfl, ?_⟩) (by assumption) ?_
          rotate_left
          · (intro w hSw; (try dsimp only at hSw); go_simp; (try with_reducible rfl))
          simp only [Act.put, List.setIfInBounds_toArray, List.set_cons_zero, List.set_cons_succ]
          refine wpAnyH_take (i := 25) (v := ?_) rfl (by kernel_rfl) (by kernel_rfl) (by kernel_rfl) (fun _ _ _ h => h) (Or.inl ⟨by rfl, ?_⟩) (by assumption) ?_
          rotate_left
          · (intro w hSw; (try dsimp only at hSw); go_simp; (try with_reducible rfl))
          simp only [Act.put, List.setIfInBounds_toArray, List.set_cons_zero, List.set_cons_succ]
          refine wpAnyH_take (i := 26) (v := ?_) rfl (by kernel_rfl) (by kernel_rfl) (by kernel_rfl) (fun _ _ _ h => h) (Or.inl ⟨by rfl, ?_⟩) (by assumption) ?_
          rotate_left
          · (intro w hSw; (try dsimp only at hSw); go_simp; (try with_reducible rfl))
          simp only [Act.put, List.setIfInBounds_toArray, List.set_cons_zero, List.set_cons_succ]
          refine wpAnyH_take (i := 27) (v := ?_) rfl (by kernel_rfl) (by kernel_rfl) (by kernel_rfl) (fun _ _ _ h => h) (Or.inl ⟨by rfl, ?_⟩) (by assumption) ?_
          rotate_left
          · (intro w hSw; (try dsimp only at hSw); go_simp; (try with_reducible rfl))
          simp only [Act.put, List.setIfInBounds_toArray, List.set_cons_zero, List.set_cons_succ]
          refine wpAnyH_take (i := 28) (v := ?_) rfl (by kernel_rfl) (by kernel_rfl) (by kernel_rfl) (fun _ _ _ h => h) (Or.inl ⟨by rfl, ?_⟩) (by assumption) ?_
          rotate_left
          · (intro w hSw; (try dsimp only at hSw); go_simp; (try with_reducible rfl))
          simp only [Act.put, List.setIfInBounds_toArray, List.set_cons_zero, List.set_cons_succ]
          refine wpAnyH_take (i := 29) (v := ?_) rfl (by kernel_rfl) (by kernel_rfl) (by kernel_rfl) (fun _ _ _ h => h) (Or.inl ⟨by rfl, ?_⟩) (by assumption) ?_
          rotate_left
          · (intro w hSw; (try dsimp only at hSw); go_simp; (try with_reducible rfl))
          simp only [Act.put, List.setIfInBounds_toArray, List.set_cons_zero, List.set_cons_succ]
          refine wpAnyH_take (i := 30) (v := ?_) rfl (by kernel_rfl) (by kernel_rfl) (by kernel_rfl) (fun _ _ _ h => h) (Or.inl ⟨by rfl, ?_⟩) (by assumption) ?_
          rotate_left
          · (intro w hSw; (try dsimp only at hSw); go_simp; (try with_reducible rfl))
          simp only [Act.put, List.setIfInBounds_toArray, List.set_cons_zero, List.set_cons_succ]
          refine wpAnyH_done (by kernel_rfl) ?_ _
          dsimp only [atEnd]
          clear hS
          go_wp2
          go_roundw
          case rel => exact ⟨y + 1, by omega, by go_num, HS.out⟩
          case measure => simp [intOf]; omega
        · have hlz : ¬ (y : Int) < (n : Int) * (m : Int) := by rw [HNM.out]; omega
          obtain rfl : y = N1 := by omega
          have S := S.line
          go_wp2
          go_roundw
          case rel => exact ⟨x + 1, by omega, by go_num, S⟩
          case measure => simp [intOf]; omega
    · have hlx : ¬ (x : Int) < (n : Int) * (m : Int) := by rw [HNM.out]; omega
      obtain rfl : x = N1 := by omega
      obtain ⟨⟨zss, ho, hF⟩, hb'⟩ := S
      have := hF.tab
      go_wp2
      go_ret
      refine ⟨_, _, _, rfl, ⟨vs, ?_⟩, hb'⟩
      rw [this, HF.out] at ho
      unfold prodP
      rw [hla.out, hlb.out, hN]
      exact ho
end Go.Proofs.Ytcnjlkabdfcjdaa
/- Isotopes of a square, and a square that a law draws. No condition beyond those stated. -/
namespace Go.Proofs.Ytcnjlkabdfcjdaa
open Go.RowKit

/-- what a permutation has at a place -/
theorem perm_at_ {p : List Int} {n : Nat} (hp : Perm p) (hl : p.length = n) {i : Nat} (hi : i < n) : ∃ u : Nat, nth p i = u ∧ u < n ∧ (nth p i).toNat = u := by
  have := perm_lt hp (v := i) (by omega)
  exact ⟨(nth p i).toNat, this.2.symm, by omega, rfl⟩
set_option maxRecDepth 100000 in
set_option maxHeartbeats 1000000 in
theorem l06IsotopeG_any (A : Option Addr) (n c : Nat) (a : List (List Int)) (R : Option Addr) (rc : Nat) (r : List Int) (K : Option Addr) (kc : Nat) (kk : List Int) (Z : Option Addr) (zc : Nat) (z : List Int) (w : World) (ha : RR w A n a) (hR : RI w R n r) (hK : RI w K n kk) (hZ : RI w Z n z)
    (n2 : n ≤ 10) (hq : ∀ x, x < n → (row a x).length = n ∧ ∀ y, y < n → 0 ≤ nth (row a x) y ∧ nth (row a x) y < (n : Int)) (hr : Perm r) (hk : Perm kk) (hz : Perm z) :
    Calls Try.prog 87 #[.slice A n c, .slice R n rc, .slice K n kc, .slice Z n zc] w (fun e w' => ∃ A' c' b, e = .returned (.slice A' n c') ∧ OR w' w.heap.size 30 2 A' n c' b ∧ Fil n (fun x _ => (nth r x).toNat) (fun _ y => (nth kk y).toNat) (fun x y => nth z (nth (row a x) y).toNat) b n 0 ∧ Below w.heap.size w w') := by
  have hl := Lib.hid ha.len
  have lr := Lib.hid hR.len
  have lk := Lib.hid hK.len
  have lz := Lib.hid hZ.len
  have HQ := Lib.hid hq
  have HP : Hid (∀ u v, u < n → v < n → (fun x _ => (nth r x).toNat : Nat → Nat → Nat) u v < n ∧ (fun _ y => (nth kk y).toNat : Nat → Nat → Nat) u v < n) := Lib.hid fun u v hu hv => by
    obtain ⟨p, e1, h1, e2⟩ := perm_at_ hr lr.out hu
    obtain ⟨q, e3, h3, e4⟩ := perm_at_ hk lk.out hv
    exact ⟨by simp only [e2]; exact h1, by simp only [e4]; exact h3⟩
  have HI : Hid (∀ u v u' v', u < n → v < n → u' < n → v' < n → (fun x _ => (nth r x).toNat : Nat → Nat → Nat) u v = (fun x _ => (nth r x).toNat : Nat → Nat → Nat) u' v' → (fun _ y => (nth kk y).toNat : Nat → Nat → Nat) u v = (fun _ y => (nth kk y).toNat : Nat → Nat → Nat) u' v' → u = u' ∧ v = v') := Lib.hid fun u v u' v' hu hv hu' hv' e1 e2 => by
    obtain ⟨p, a1, h1, a2⟩ := perm_at_ hr lr.out hu
    obtain ⟨q, a3, h3, a4⟩ := perm_at_ hk lk.out hv
    obtain ⟨p', b1, h1', b2⟩ := perm_at_ hr lr.out hu'
    obtain ⟨q', b3, h3', b4⟩ := perm_at_ hk lk.out hv'
    simp only [a2, b2, a4, b4] at e1 e2
    exact ⟨perm_inj hr (by rw [lr.out]; exact hu) (by rw [lr.out]; exact hu') (by omega), perm_inj hk (by rw [lk.out]; exact hv) (by rw [lk.out]; exact hv') (by omega)⟩
  have Hr := Lib.hid hr
  have Hk := Lib.hid hk
  have Hz := Lib.hid hz
  clear hr hk hz hq
  obtain ⟨f, hf⟩ : ∃ f : Nat → Nat → Int, f = fun x y => nth z (nth (row a x) y).toNat := ⟨_, rfl⟩
  obtain ⟨p1, hp1⟩ : ∃ p1 : Nat → Nat → Nat, p1 = fun x _ => (nth r x).toNat := ⟨_, rfl⟩
  obtain ⟨p2, hp2⟩ : ∃ p2 : Nat → Nat → Nat, p2 = fun _ y => (nth kk y).toNat := ⟨_, rfl⟩
  rw [← hf, ← hp1, ← hp2]
  rw [← hp1, ← hp2] at HP HI
  have HF := Lib.hid hf
  have H1 := Lib.hid hp1
  have H2 := Lib.hid hp2
  clear hf hp1 hp2
  go_enter Try.func87, Try.ntmps87
  go_wp2_with fail
  refine (l06Zero_any n n w (by omega) (by omega)).mono ?_
  rintro e w1 ⟨G, N1, cg, rfl, ⟨vs, ho⟩, hw⟩
  obtain rfl : N1 = n := by rw [← ho.slen, zerosP_len]
  have S : FSt w w1 N1 G cg vs p1 p2 f 0 0 := ⟨⟨_, ho, Fil.start _ _ _ _⟩, hw⟩
  clear ho hw
  go_wp2
  go_loopw [11] (fun i wr => ∃ x : Nat, x ≤ N1 ∧ i = .int .i64 x ∧ FSt w wr N1 G cg vs p1 p2 f x 0) (fun i _ => N1 - (intOf i).toNat)
  case atStart => exact ⟨0, Nat.zero_le _, rfl, S⟩
  case round =>
    clear S
    obtain ⟨x, hx, rfl, S⟩ := hrel
    by_cases hlt : x < N1
    · go_wp2
      go_loopw [12] (fun i wr => ∃ y : Nat, y ≤ N1 ∧ i = .int .i64 y ∧ FSt w wr N1 G cg vs p1 p2 f x y) (fun i _ => N1 - (intOf i).toNat)
      case atStart => exact ⟨0, Nat.zero_le _, rfl, S⟩
      case round =>
        clear S
        obtain ⟨y, hy, rfl, S⟩ := hrel
        by_cases hly : y < N1
        · have hbw := S.b
          have hsr := HQ.out x hlt
          obtain ⟨aa, ra, ma, ca, rfl, ca1, ea, ka1, ka2, ca2, ia⟩ := (ha.keep hbw).get2 hlt (j := y) (by rw [hsr.1]; exact hly)
          obtain ⟨ar, rfl, cr, -⟩ := (hR.keep hbw).get hlt
          obtain ⟨ak, rfl, ck, -⟩ := (hK.keep hbw).get hly
          obtain ⟨vx, e1, v1, e1'⟩ := perm_at_ Hr.out lr.out hlt
          obtain ⟨vy, e2, v2, e2'⟩ := perm_at_ Hk.out lk.out hly
          obtain ⟨vs', e3, v3, e3'⟩ : ∃ u : Nat, nth (row a x) y = (u : Int) ∧ u < N1 ∧ (nth (row a x) y).toNat = u := ⟨(nth (row a x) y).toNat, by have := hsr.2 y hly; omega, by have := hsr.2 y hly; omega, rfl⟩
          obtain ⟨az, rfl, cz, iz⟩ := (hZ.keep hbw).get v3
          obtain rfl : N1 = ma := by rw [← ea, hsr.1]
          obtain ⟨g, rr, k, rfl, c1, k1, k2, ⟨u, c2⟩, f2, hr, S⟩ := S.put hlt hly HP.out HI.out (by
            rw [HF.out]; dsimp only; rw [e3']; exact iz)
          have hp1x : p1 x y = vx := by rw [H1.out]; exact e1'
          have hp2x : p2 x y = vy := by rw [H2.out]; exact e2'
          have hfx : f x y = nth z vs' := by rw [HF.out]; dsimp only; rw [e3']
          rw [hp1x] at c1
          rw [hp2x] at c2 f2
          rw [hp2x, hfx] at S
          rw [e1] at cr
          rw [e2] at ck
          rw [e3] at ca2
          have HS := Lib.hid (S.below (below_drewn _ 1))
          clear S hp1x hp2x hfx e1 e2 e3 e1' e2' e3' ia hsr ea
          simp only [← World.drew_is_drewN] at HS
          generalize nth z vs' = val at *
          have w1 : IntKind.i64.wrap (vx : Int) = vx := IntWalk.i64_in _ (by omega)
          have w2 : IntKind.i64.wrap (vy : Int) = vy := IntWalk.i64_in _ (by omega)
          have w3 : IntKind.i64.wrap (vs' : Int) = vs' := IntWalk.i64_in _ (by omega)
          have hxn : (x : Int) < N1 := by omega
          go_wp2
          refine region_last (P := Try.prog) (S := (fun w' => w'.cell? ⟨g, vx, none⟩ = some (.slice (some ⟨rr, 0, none⟩) N1 k) ∧ w'.cell? (aa.add x) = some (.slice (some ra) N1 ca) ∧ w'.cell? (ra.add y) = some (.int .i64 vs') ∧ w'.cell? (ar.add x) = some (.int .i64 vx) ∧ w'.cell? (ak.add y) = some (.int .i64 vy) ∧ w'.cell? (az.add vs') = some (.int .i64 val))) (by kernel_rfl) (by simp only [List.getLast?_cons_cons, List.getLast?_singleton]; rfl) (by dsimp only [List.dropLast]) (by kernel_rfl) ?_ ?_
          · exact ⟨by simpa using c1, by simpa using ca1, by simpa using ca2, by simpa using cr, by simpa using ck, by simpa using cz⟩
          intro hS
          refine wpAnyH_take (i := 0) (v := ?_) rfl (by kernel_rfl) (by kernel_rfl) (by kernel_rfl) (fun _ _ _ h => h) (Or.inl ⟨by rfl, ?_⟩) (by assumption) ?_
          rotate_left
          · (intro w hSw; (try dsimp only at hSw); go_simp; (try with_reducible rfl))
          simp only [Act.put, List.setIfInBounds_toArray, List.set_cons_zero, List.set_cons_succ]
          refine wpAnyH_take (i := 1) (v := ?_) rfl (by kernel_rfl) (by kernel_rfl) (by kernel_rfl) (fun _ _ _ h => h) (Or.inl ⟨by rfl, ?_⟩) (by assumption) ?_
          rotate_left
          · (intro w hSw; (try dsimp only at hSw); go_simp; (try with_reducible rfl))
          simp only [Act.put, List.setIfInBounds_toArray, List.set_cons_zero, List.set_cons_succ]
          refine wpAnyH_take (i := 2) (v := ?_) rfl (by kernel_rfl) (by kernel_rfl) (by kernel_rfl) (fun _ _ _ h => h) (Or.inl ⟨by rfl, ?_⟩) (by assumption) ?_
          rotate_left
          · (intro w hSw; (try dsimp only at hSw); go_simp; (try with_reducible rfl))
          simp only [Act.put, List.setIfInBounds_toArray, List.set_cons_zero, List.set_cons_succ]
          refine wpAnyH_take (i := 3) (v := ?_) rfl (by kernel_rfl) (by kernel_rfl) (by kernel_rfl) (fun _ _ _ h => h) (Or.inl ⟨by rfl, ?_⟩) (by assumption) ?_
          rotate_left
          · (intro w hSw; (try dsimp only at hSw); go_simp; (try with_reducible rfl))
          simp only [Act.put, List.setIfInBounds_toArray, List.set_cons_zero, List.set_cons_succ]
          refine wpAnyH_take (i := 4) (v := ?_) rfl (by kernel_rfl) (by kernel_rfl) (by kernel_rfl) (fun _ _ _ h => h) (Or.inl ⟨by rfl, ?_⟩) (by assumption) ?_
          rotate_left
          · (intro w hSw; (try dsimp only at hSw); go_simp; (try with_reducible rfl))
          simp only [Act.put, List.setIfInBounds_toArray, List.set_cons_zero, List.set_cons_succ]
          refine wpAnyH_take (i := 5) (v := ?_) rfl (by kernel_rfl) (by kernel_rfl) (by kernel_rfl) (fun _ _ _ h => h) (Or.inl ⟨by rfl, ?_⟩) (by assumption) ?_
          rotate_left
          · (intro w hSw; (try dsimp only at hSw); go_simp; (try with_reducible rfl))
          simp only [Act.put, List.setIfInBounds_toArray, List.set_cons_zero, List.set_cons_succ]
          refine wpAnyH_take (i := 6) (v := ?_) rfl (by kernel_rfl) (by kernel_rfl) (by kernel_rfl) (fun _ _ _ h => h) (Or.inl ⟨by rfl, ?_⟩) (by assumption) ?_
          rotate_left
          · (intro w hSw; (try dsimp only at hSw); go_simp; (try with_reducible rfl))
          simp only [Act.put, List.setIfInBounds_toArray, List.set_cons_zero, List.set_cons_succ]
          refine wpAnyH_take (i := 7) (v := ?_) rfl (by kernel_rfl) (by kernel_rfl) (by kernel_rfl) (fun _ _ _ h => h) (Or.inl ⟨by rfl, ?_⟩) (by assumption) ?_
          rotate_left
          · (intro w hSw; (try dsimp only at hSw); go_simp; (try with_reducible rfl))
          simp only [Act.put, List.setIfInBounds_toArray, List.set_cons_zero, List.set_cons_succ]
          refine wpAnyH_take (i := 8) (v := ?_) rfl (by kernel_rfl) (by kernel_rfl) (by kernel_rfl) (fun _ _ _ h => h) (Or.inl ⟨by rfl, ?_⟩) (by assumption) ?_
          rotate_left
          · (intro w hSw; (try dsimp only at hSw); go_simp; (try with_reducible rfl))
          simp only [Act.put, List.setIfInBounds_toArray, List.set_cons_zero, List.set_cons_succ]
          refine wpAnyH_take (i := 9) (v := ?_) rfl (by kernel_rfl) (by kernel_rfl) (by kernel_rfl) (fun _ _ _ h => h) (Or.inl ⟨by rfl, ?_⟩) (by assumption) ?_
          rotate_left
          · (intro w hSw; (try dsimp only at hSw); go_simp; (try with_reducible rfl))
          simp only [Act.put, List.setIfInBounds_toArray, List.set_cons_zero, List.set_cons_succ]
          refine wpAnyH_take (i := 10) (v := ?_) rfl (by kernel_rfl) (by kernel_rfl) (by kernel_rfl) (fun _ _ _ h => h) (Or.inl ⟨by rfl, ?_⟩) (by assumption) ?_
          rotate_left
          · (intro w hSw; (try dsimp only at hSw); go_simp; (try with_reducible rfl))
          simp only [Act.put, List.setIfInBounds_toArray, List.set_cons_zero, List.set_cons_succ]
          refine wpAnyH_take (i := 11) (v := ?_) rfl (by kernel_rfl) (by kernel_rfl) (by kernel_rfl) (fun _ _ _ h => h) (Or.inl ⟨by rfl, ?_⟩) (by assumption) ?_
          rotate_left
          · (intro w hSw; (try dsimp only at hSw); go_simp; (try with_reducible rfl))
          simp only [Act.put, List.setIfInBounds_toArray, List.set_cons_zero, List.set_cons_succ]
          refine wpAnyH_take (i := 12) (v := ?_) rfl (by kernel_rfl) (by kernel_rfl) (by kernel_rfl) (fun _ _ _ h => h) (Or.inl ⟨by rfl, ?_⟩) (by assumption) ?_
          rotate_left
          · (intro w hSw; (try dsimp only at hSw); go_simp; (try with_reducible rfl))
          simp only [Act.put, List.setIfInBounds_toArray, List.set_cons_zero, List.set_cons_succ]
          refine wpAnyH_take (i := 13) (v := ?_) rfl (by kernel_rfl) (by kernel_rfl) (by kernel_rfl) (fun _ _ _ h => h) (Or.inl ⟨by rfl, ?_⟩) (by assumption) ?_
          rotate_left
          · (intro w hSw; (try dsimp only at hSw); go_simp; (try with_reducible rfl))
          simp only [Act.put, List.setIfInBounds_toArray, List.set_cons_zero, List.set_cons_succ]
          refine wpAnyH_take (i := 14) (v := ?_) rfl (by kernel_rfl) (by kernel_rfl) (by kernel_rfl) (fun _ _ _ h => h) (Or.inl ⟨by rfl, ?_⟩) (by assumption) ?_
          rotate_left
          · (intro w hSw; (try dsimp only at hSw); go_simp; (try with_reducible rfl))
          simp only [Act.put, List.setIfInBounds_toArray, List.set_cons_zero, List.set_cons_succ]
          refine wpAnyH_take (i := 15) (v := ?_) rfl (by kernel_rfl) (by kernel_rfl) (by kernel_rfl) (fun _ _ _ h => h) (Or.inl ⟨by rfl, ?_⟩) (by assumption) ?_
          rotate_left
          · (intro w hSw; (try dsimp only at hSw); go_simp; (try with_reducible rfl))
          simp only [Act.put, List.setIfInBounds_toArray, List.set_cons_zero, List.set_cons_succ]
          refine wpAnyH_take (i := 16) (v := ?_) rfl (by kernel_rfl) (by kernel_rfl) (by kernel_rfl) (fun _ _ _ h => h) (Or.inl ⟨by rfl, ?_⟩) (by assumption) ?_
          rotate_left
          · (intro w hSw; (try dsimp only at hSw); go_simp; (try with_reducible rfl))
          simp only [Act.put, List.setIfInBounds_toArray, List.set_cons_zero, List.set_cons_succ]
          refine wpAnyH_take (i := 17) (v := ?_) rfl (by kernel_rfl) (by kernel_rfl) (by kernel_rfl) (fun _ _ _ h => h) (Or.inl ⟨by rfl, ?_⟩) (by assumption) ?_
          rotate_left
          · (intro w hSw; (try dsimp only at hSw); go_simp; (try with_reducible rfl))
          simp only [Act.put, List.setIfInBounds_toArray, List.set_cons_zero, List.set_cons_succ]
          refine wpAnyH_take (i := 18) (v := ?_) rfl (by kernel_rfl) (by kernel_rfl) (by kernel_rfl) (fun _ _ _ h => h) (Or.inl ⟨by rfl, ?_⟩) (by assumption) ?_
          rotate_left
          · (intro w hSw; (try dsimp only at hSw); go_simp; (try with_reducible rfl))
          simp only [Act.put, List.setIfInBounds_toArray, List.set_cons_zero, List.set_cons_succ]
          refine wpAnyH_take (i := 19) (v := ?_) rfl (by kernel_rfl) (by kernel_rfl) (by kernel_rfl) (fun _ _ _ h => h) (Or.inl ⟨by rfl, ?_⟩) (by assumption) ?_
          rotate_left
          · (intro w hSw; (try dsimp only at hSw); go_simp; (try with_reducible rfl))
          simp only [Act.put, List.setIfInBounds_toArray, List.set_cons_zero, List.set_cons_succ]
          refine wpAnyH_take (i := 20) (v := ?_) rfl (by kernel_rfl) (by kernel_rfl) (by kernel_rfl) (fun _ _ _ h => h) (Or.inl ⟨by rfl, ?_⟩) (by assumption) ?_
          rotate_left
          · (intro w hSw; (try dsimp only at hSw); go_simp; (try with_reducible rfl))
          simp only [Act.put, List.setIfInBounds_toArray, List.set_cons_zero, List.set_cons_succ]
          refine wpAnyH_take (i := 21) (v := ?_) rfl (by kernel_rfl) (by kernel_rfl) (by kernel_rfl) (fun _ _ _ h => h) (Or.inl ⟨by rfl, ?_⟩) (by assumption) ?_
          rotate_left
          · (intro w hSw; (try dsimp only at hSw); go_simp; (try with_reducible rfl))
          simp only [Act.put, List.setIfInBounds_toArray, List.set_cons_zero, List.set_cons_succ]
          refine wpAnyH_done (by kernel_rfl) ?_ _
          dsimp only [atEnd]
          clear hS
          go_wp2
          go_roundw
          case rel => exact ⟨y + 1, by omega, by go_num, HS.out⟩
          case measure => simp [intOf]; omega
        · obtain rfl : y = N1 := by omega
          have S := S.line
          go_wp2
          go_roundw
          case rel => exact ⟨x + 1, by omega, by go_num, S⟩
          case measure => simp [intOf]; omega
    · obtain rfl : x = N1 := by omega
      obtain ⟨⟨zss, ho, hF⟩, hb'⟩ := S
      go_wp2
      go_ret
      exact ⟨_, _, _, rfl, ⟨vs, ho⟩, hF, hb'⟩
set_option maxRecDepth 100000 in
set_option maxHeartbeats 1000000 in
theorem l06Isotope_any (A : Option Addr) (n c : Nat) (a : List (List Int)) (R : Option Addr) (rc : Nat) (r : List Int) (K : Option Addr) (kc : Nat) (kk : List Int) (Z : Option Addr) (zc : Nat) (z : List Int) (w : World) (ha : RR w A n a) (hR : RI w R n r) (hK : RI w K n kk) (hZ : RI w Z n z)
    (hq : Square a) (hr : Perm r) (hk : Perm kk) (hz : Perm z) :
    Calls Try.prog 87 #[.slice A n c, .slice R n rc, .slice K n kc, .slice Z n zc] w (fun e w' => ∃ A' c' b, e = .returned (.slice A' n c') ∧ OR w' w.heap.size 30 2 A' n c' b ∧ Fil n (fun x _ => (nth r x).toNat) (fun _ y => (nth kk y).toNat) (fun x y => nth z (nth (row a x) y).toNat) b n 0 ∧ Below w.heap.size w w') := by
  exact l06IsotopeG_any A n c a R rc r K kc kk Z zc z w ha hR hK hZ (by have := ha.len; have := hq.2.1; omega) (fun x hx => by
    have hl := ha.len
    obtain ⟨h1, h2⟩ := hq.2.2.1 x (by omega)
    refine ⟨by rw [h1, hl], fun y hy => ?_⟩
    have := h2.bd y (by rw [h1, hl]; exact hy)
    rw [h1, hl] at this
    exact this) hr hk hz
end Go.Proofs.Ytcnjlkabdfcjdaa
