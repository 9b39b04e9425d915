/- A square that a law draws, of an order from 1 to 10. No condition beyond those stated. -/
import Derived.Test.YtdkbcjdimhgmnaaGreatRLC
import Derived.Deep.DeepCutAuto
import Derived.Deep.CutBlock
import Derived.Test.YtdkbcjdimhgmnaaGreatRLA
set_option linter.unusedVariables false
set_option linter.unusedSimpArgs false
namespace Go.Proofs.YtdkbcjdimhgmnaaGreat
open Go.RowKit
def CutS (w wx : World) (s : Value) (g p n : Nat) : Prop := ∃ A c zss q, s = .slice A n c ∧ OR wx w.heap.size 22 2 A n c zss ∧ zss.length = n ∧ Square zss ∧ SrW w wx g q ∧ q ≤ p
theorem sq_shape {a : List (List Int)} {n : Nat} (h : Square a) (hl : a.length = n) : (∀ i, i < n → (row a i).length = n) ∧ ∀ i j, i < n → j < n → 0 ≤ nth (row a i) j ∧ nth (row a i) j ≤ 1024 := by
  subst hl
  exact ⟨fun i hi => (h.2.2.1 i hi).1, fun i j hi hj => by have := sq_bnd h hi hj; have := h.2.1; omega⟩
theorem l06Product_sq (A : Option Addr) (n c : Nat) (a : List (List Int)) (B : Option Addr) (m d : Nat) (b : List (List Int)) (w : World) (ha : RR w A n a) (hb : RR w B m b) (h1 : Square a) (h2 : Square b) :
    Calls Tryz.prog 118 #[.slice A n c, .slice B m d] w (RetR w 22 2 (prodP a b)) := by
  have la := ha.len
  have lb := hb.len
  have s1 := sq_shape h1 la
  have s2 := sq_shape h2 lb
  exact l06Product_any A n c a B m d b w ha hb (by rw [← la]; exact h1.1) (by rw [← la]; have := h1.2.1; omega) (by rw [← lb]; exact h2.1) (by rw [← lb]; have := h2.2.1; omega) s1.1 s2.1 s1.2 s2.2
set_option maxRecDepth 100000 in
set_option maxHeartbeats 1000000 in
theorem l06DrawSquare_any (g p n : Nat) (w : World) (hs : Src w g p) (hp : p ≤ 140737488355328) (hn1 : 1 ≤ n) (hn : n ≤ 10) :
    Calls Tryz.prog 59 #[.pointer (some ⟨g, 0, none⟩), .int .i64 n] w (RetSq w g p n 120) := by
  have S0 := SrW.start hs
  go_enter Tryz.func59, Tryz.ntmps59
  go_wp2_with fail
  refine (l06Cyclic_any n w (by omega)).mono ?_
  rintro e w1 ⟨A, n', c, rfl, ho, hb⟩
  obtain rfl : n' = n := by rw [← ho.len, cycP_len]
  have S := S0.step hb
  have HQ := Lib.hid (cyc_square hn1 hn)
  have hcy := Lib.hid (fun (m : Nat) (wx : World) (h : m ≤ 10) => l06Cyclic_any m wx (by omega))
  clear S0 hs hb
  go_upto_block 0 with (fail)
  go_cut [5] (fun s5 wx => CutS w wx s5 g (p + 2) n')
  case first =>
    have hCut : CutS w w1 (.slice A n' c) g (p + 2) n' := ⟨A, c, _, p, rfl, ho, cycP_len _, HQ.out, S, by omega⟩
    by_cases h4 : n' = 4
    · subst h4
      go_wp2_with fail
      refine (one_any g p 2 _ S.src (by omega) (by omega) (by omega)).mono ?_
      rintro e w2 ⟨b, q, rfl, hq, hs2, hg2⟩
      have S2 := S.next hs2 hg2
      have ho2 := ho.keptB hg2 S.gl
      cases b with
      | false =>
        go_wp2
        go_meet
        case rel => exact ⟨A, c, _, q, rfl, ho2, cycP_len _, HQ.out, S2, by omega⟩
      | true =>
        go_wp2_with fail
        refine (hcy.out 2 _ (by omega)).mono ?_
        rintro e w3 ⟨A1, m1, c1, rfl, o1, b1⟩
        obtain rfl : m1 = 2 := by rw [← o1.len, cycP_len]
        go_wp2_with fail
        refine (hcy.out 2 _ (by omega)).mono ?_
        rintro e w4 ⟨A2, m2, c2, rfl, o2, b2⟩
        obtain rfl : m2 = 2 := by rw [← o2.len, cycP_len]
        go_wp2_with fail
        refine (l06Product_sq A1 2 c1 _ A2 2 c2 _ _ (o1.reads.keep b2) o2.reads (cyc_square (by omega) (by omega)) (cyc_square (by omega) (by omega))).mono ?_
        rintro e w5 ⟨A3, m3, c3, rfl, o3, b3⟩
        obtain rfl : m3 = 4 := by rw [← o3.len]; decide +kernel
        go_wp2
        go_meet
        case rel => exact ⟨A3, c3, _, q, rfl, o3.more (by have := S2.size; have := b1.size; have := b2.size; omega), by decide +kernel, prod_22, ((S2.step b1).step b2).step b3, by omega⟩
    by_cases h6 : n' = 6
    · subst h6
      go_wp2_with fail
      refine (one_any g p 2 _ S.src (by omega) (by omega) (by omega)).mono ?_
      rintro e w2 ⟨b, q, rfl, hq, hs2, hg2⟩
      have S2 := S.next hs2 hg2
      have ho2 := ho.keptB hg2 S.gl
      cases b with
      | false =>
        go_wp2
        go_meet
        case rel => exact ⟨A, c, _, q, rfl, ho2, cycP_len _, HQ.out, S2, by omega⟩
      | true =>
        go_wp2_with fail
        refine (hcy.out 3 _ (by omega)).mono ?_
        rintro e w3 ⟨A1, m1, c1, rfl, o1, b1⟩
        obtain rfl : m1 = 3 := by rw [← o1.len, cycP_len]
        go_wp2_with fail
        refine (hcy.out 2 _ (by omega)).mono ?_
        rintro e w4 ⟨A2, m2, c2, rfl, o2, b2⟩
        obtain rfl : m2 = 2 := by rw [← o2.len, cycP_len]
        go_wp2_with fail
        refine (l06Product_sq A1 3 c1 _ A2 2 c2 _ _ (o1.reads.keep b2) o2.reads (cyc_square (by omega) (by omega)) (cyc_square (by omega) (by omega))).mono ?_
        rintro e w5 ⟨A3, m3, c3, rfl, o3, b3⟩
        obtain rfl : m3 = 6 := by rw [← o3.len]; decide +kernel
        go_wp2
        go_meet
        case rel => exact ⟨A3, c3, _, q, rfl, o3.more (by have := S2.size; have := b1.size; have := b2.size; omega), by decide +kernel, prod_32, ((S2.step b1).step b2).step b3, by omega⟩
    by_cases h8 : n' = 8
    · subst h8
      go_wp2_with fail
      refine (one_any g p 2 _ S.src (by omega) (by omega) (by omega)).mono ?_
      rintro e w2 ⟨b, q, rfl, hq, hs2, hg2⟩
      have S2 := S.next hs2 hg2
      have ho2 := ho.keptB hg2 S.gl
      cases b with
      | false =>
        go_wp2
        go_meet
        case rel => exact ⟨A, c, _, q, rfl, ho2, cycP_len _, HQ.out, S2, by omega⟩
      | true =>
        go_wp2_with fail
        refine (hcy.out 2 _ (by omega)).mono ?_
        rintro e w3 ⟨A1, m1, c1, rfl, o1, b1⟩
        obtain rfl : m1 = 2 := by rw [← o1.len, cycP_len]
        go_wp2_with fail
        refine (hcy.out 2 _ (by omega)).mono ?_
        rintro e w4 ⟨A2, m2, c2, rfl, o2, b2⟩
        obtain rfl : m2 = 2 := by rw [← o2.len, cycP_len]
        go_wp2_with fail
        refine (l06Product_sq A1 2 c1 _ A2 2 c2 _ _ (o1.reads.keep b2) o2.reads (cyc_square (by omega) (by omega)) (cyc_square (by omega) (by omega))).mono ?_
        rintro e w5 ⟨A3, m3, c3, rfl, o3, b3⟩
        obtain rfl : m3 = 4 := by rw [← o3.len]; decide +kernel
        go_wp2_with fail
        refine (hcy.out 2 _ (by omega)).mono ?_
        rintro e w6 ⟨A4, m4, c4, rfl, o4, b4⟩
        obtain rfl : m4 = 2 := by rw [← o4.len, cycP_len]
        go_wp2_with fail
        refine (l06Product_sq A3 4 c3 _ A4 2 c4 _ _ (o3.reads.keep b4) o4.reads prod_22 (cyc_square (by omega) (by omega))).mono ?_
        rintro e w7 ⟨A5, m5, c5, rfl, o5, b5⟩
        obtain rfl : m5 = 8 := by rw [← o5.len]; decide +kernel
        go_wp2
        go_meet
        case rel => exact ⟨A5, c5, _, q, rfl, o5.more (by have := S2.size; have := b1.size; have := b2.size; have := b3.size; have := b4.size; omega), by decide +kernel, prod_222, ((((S2.step b1).step b2).step b3).step b4).step b5, by omega⟩
    by_cases h9 : n' = 9
    · subst h9
      go_wp2_with fail
      refine (one_any g p 2 _ S.src (by omega) (by omega) (by omega)).mono ?_
      rintro e w2 ⟨b, q, rfl, hq, hs2, hg2⟩
      have S2 := S.next hs2 hg2
      have ho2 := ho.keptB hg2 S.gl
      cases b with
      | false =>
        go_wp2
        go_meet
        case rel => exact ⟨A, c, _, q, rfl, ho2, cycP_len _, HQ.out, S2, by omega⟩
      | true =>
        go_wp2_with fail
        refine (hcy.out 3 _ (by omega)).mono ?_
        rintro e w3 ⟨A1, m1, c1, rfl, o1, b1⟩
        obtain rfl : m1 = 3 := by rw [← o1.len, cycP_len]
        go_wp2_with fail
        refine (hcy.out 3 _ (by omega)).mono ?_
        rintro e w4 ⟨A2, m2, c2, rfl, o2, b2⟩
        obtain rfl : m2 = 3 := by rw [← o2.len, cycP_len]
        go_wp2_with fail
        refine (l06Product_sq A1 3 c1 _ A2 3 c2 _ _ (o1.reads.keep b2) o2.reads (cyc_square (by omega) (by omega)) (cyc_square (by omega) (by omega))).mono ?_
        rintro e w5 ⟨A3, m3, c3, rfl, o3, b3⟩
        obtain rfl : m3 = 9 := by rw [← o3.len]; decide +kernel
        go_wp2
        go_meet
        case rel => exact ⟨A3, c3, _, q, rfl, o3.more (by have := S2.size; have := b1.size; have := b2.size; omega), by decide +kernel, prod_33, ((S2.step b1).step b2).step b3, by omega⟩
    · have e4 : ((n' : Int) == 4) = false := by simp; omega
      have e6 : ((n' : Int) == 6) = false := by simp; omega
      have e8 : ((n' : Int) == 8) = false := by simp; omega
      have e9 : ((n' : Int) == 9) = false := by simp; omega
      clear h4 h6 h8 h9
      go_wp2
      go_meet
      case rel => exact hCut
  case rest =>
    clear S ho HQ hcy
    obtain ⟨A1, c1, zss, q, rfl, ho, hl, hS, S, hq⟩ := hcut
    go_wp2_with fail
    refine (pick_any g q 4 _ S.src (by omega) (by omega) (by omega)).mono ?_
    rintro e w2 ⟨k, q2, rfl, k0, k1, hq2, hs2, hg2⟩
    have ho := ho.keptB hg2 S.gl
    have S := S.next hs2 hg2
    clear hs2 hg2
    go_wp2
    go_loopw [5, 6] (fun av kv wr => ∃ (k : Nat) (A : Option Addr) (c q : Nat) (zss : List (List Int)), kv = .int .i64 k ∧ k ≤ 3 ∧ av = .slice A n' c ∧ OR wr w.heap.size 22 2 A n' c zss ∧ zss.length = n' ∧ Square zss ∧ SrW w wr g q ∧ q + 6 * k ≤ p + 30) (fun _ kv _ => (intOf kv).toNat)
    case atStart =>
      obtain ⟨k, rfl⟩ := Int.eq_ofNat_of_zero_le k0
      exact ⟨k, A1, c1, q2, zss, rfl, by omega, rfl, ho, hl, hS, S, by omega⟩
    case round =>
      clear ho hl hS S hq2 hq k0 k1
      obtain ⟨k, A, c, q, zss, rfl, hk, rfl, ho, hl, hS, S, hq⟩ := hrel
      by_cases hk0 : 0 < k
      · go_wp2_with fail
        have hgl := S.gl
        refine (l06Switch_any g q n' A c w.heap.size zss wr S.src (by omega) hgl ho hS).mono ?_
        rintro e w3 ⟨A3, c3, zs3, q3, rfl, ho3, hl3, hS3, S3, hq3⟩
        have hsz := S.size
        have S4 := S.then_ S3
        have ho4 := ho3.more hsz
        clear ho hl hS S ho3 S3 hsz
        go_wp2
        go_roundw
        case rel => exact ⟨k - 1, A3, c3, q3, zs3, by go_num, by omega, rfl, ho4, hl3, hS3, S4, by omega⟩
        case measure => simp [intOf]; omega
      · obtain rfl : k = 0 := by omega
        go_wp2_with fail
        have hgl := S.gl
        refine (l04DrawPerm_any g q n' _ S.src (by omega) (by omega)).mono ?_
        rintro e w3 ⟨R, rc, r, q3, rfl, hor, hlr, hpr, S3, hq3⟩
        have hsz := S.size
        have ho := ho.keptB S3.grown hgl
        have hor := hor.more hsz
        have S := S.then_ S3
        clear S3 hsz
        go_wp2_with fail
        refine (l04DrawPerm_any g q3 n' _ S.src (by omega) (by omega)).mono ?_
        rintro e w4 ⟨K, kc, kk, q4, rfl, hok, hlk, hpk, S4, hq4⟩
        have hsz := S.size
        have ho := ho.keptB S4.grown hgl
        have hor := hor.keptB S4.grown hgl
        have hok := hok.more hsz
        have S := S.then_ S4
        clear S4 hsz
        go_wp2_with fail
        refine (l04DrawPerm_any g q4 n' _ S.src (by omega) (by omega)).mono ?_
        rintro e w5 ⟨Z, zc, z, q5, rfl, hoz, hlz, hpz, S5, hq5⟩
        have hsz := S.size
        have ho := ho.keptB S5.grown hgl
        have hor := hor.keptB S5.grown hgl
        have hok := hok.keptB S5.grown hgl
        have hoz := hoz.more hsz
        have S := S.then_ S5
        clear S5 hsz
        go_wp2_with fail
        refine (one_any g q5 5 _ S.src (by omega) (by omega) (by omega)).mono ?_
        rintro e w6 ⟨b, q6, rfl, hq6, hs6, hg6⟩
        have ho := ho.keptB hg6 hgl
        have hor := hor.keptB hg6 hgl
        have hok := hok.keptB hg6 hgl
        have hoz := hoz.keptB hg6 hgl
        have S := S.next hs6 hg6
        clear hs6 hg6
        cases b with
        | true =>
          go_wp2
          go_ret
          exact ⟨_, _, _, _, rfl, ho, hl, hS, S, by omega⟩
        | false =>
          have hsz := S.size
          go_wp2_with fail
          refine (l06Isotope_any A n' c zss R rc r K kc kk Z zc z _ ho.reads hor.reads hok.reads hoz.reads hS hpr hpk hpz).mono ?_
          rintro e w7 ⟨A7, c7, b7, rfl, ho7, hF7, hb7⟩
          have hS7 := isotope_square hS hl hpr hlr hpk hlk hpz hlz hF7
          have S7 := S.step hb7
          have ho7 := ho7.more hsz
          have hl7 := hF7.len
          clear ho hor hok hoz S hF7
          go_wp2
          go_ret
          exact ⟨_, _, _, _, rfl, ho7, hl7, hS7, S7, by omega⟩
set_option maxHeartbeats 1000000 in
theorem v8Square_any (A : Option Addr) (n c : Nat) (bs : List Int) (w : World) (ha : RS EByte w A n bs) (hn : n ≤ 9223372036854775807) :
    Calls Tryz.prog 19 #[.slice A n c] w (fun e w' => ∃ A' k c' zss, e = .returned (.slice A' k c') ∧ OR w' w.heap.size 22 2 A' k c' zss ∧ zss.length = k ∧ Square zss ∧ Below w.heap.size w w') := by
  go_enter Tryz.func19, Tryz.ntmps19
  go_wp2_with fail
  refine (l00From_any A n c bs w ha hn).mono ?_
  rintro e w1 ⟨rfl, hs1, hb1⟩
  have S := SrW.start hs1
  go_wp2_with fail
  refine (pick_any w.heap.size 0 6 _ S.src (by omega) (by omega) (by omega)).mono ?_
  rintro e w2 ⟨k, q2, rfl, k0, k1, hq2, hs2, hg2⟩
  have S := S.next hs2 hg2
  obtain ⟨k, rfl⟩ := Int.eq_ofNat_of_zero_le k0
  have HD := l06DrawSquare_any w.heap.size q2 (k + 1) w2 S.src (by omega) (by omega) (by omega)
  have e1 : (1 : Int) + (k : Int) = ((k + 1 : Nat) : Int) := by omega
  have HE := Lib.hid e1
  clear e1 hs2 hg2
  go_wp2_with fail
  rw [HE.out]
  refine HD.mono ?_
  rintro e w3 ⟨A3, c3, zss, q3, rfl, ho, hl, hS, S3, hq3⟩
  have hsz := S.size
  have S := S.then_ S3
  have hb : Below w.heap.size w w3 := ⟨S.grown.os.trans hb1.os, S.grown.tape.trans hb1.tape, S.grown.output.trans hb1.output, by have := S.size; have := hb1.size; omega, fun j hj => by
    rw [S.grown.block j (by have := hb1.size; omega) (fun e => by injection e with e; omega)]
    exact hb1.block j hj⟩
  have ho := ho.more (B' := w.heap.size) (by have := hb1.size; omega)
  clear S S3 HD hs1 hb1 hsz
  go_wp2
  go_ret
  exact ⟨_, _, _, _, rfl, ho, hl, hS, hb⟩
set_option maxHeartbeats 1000000 in
theorem v8Isotope_any (A : Option Addr) (n c : Nat) (bs : List Int) (X : Option Addr) (k d : Nat) (a : List (List Int)) (w : World) (ha : RS EByte w A n bs) (hn : n ≤ 9223372036854775807) (hx : RR w X k a) (hq : Square a) :
    Calls Tryz.prog 20 #[.slice A n c, .slice X k d] w (fun e w' => ∃ A' c' b r kk z, e = .returned (.slice A' k c') ∧ OR w' w.heap.size 22 2 A' k c' b ∧ Square b ∧ (Perm r ∧ r.length = k) ∧ (Perm kk ∧ kk.length = k) ∧ (Perm z ∧ z.length = k) ∧ Fil k (fun x _ => (nth r x).toNat) (fun _ y => (nth kk y).toNat) (fun x y => nth z (nth (row a x) y).toNat) b k 0 ∧ Below w.heap.size w w') := by
  have hl := hx.len
  have hk10 : k ≤ 10 := by rw [← hl]; exact hq.2.1
  go_enter Tryz.func20, Tryz.ntmps20
  go_wp2_with fail
  refine (l00From_any A n c bs w ha hn).mono ?_
  rintro e w1 ⟨rfl, hs1, hb1⟩
  have S := SrW.start hs1
  have hgl := S.gl
  have hB : w.heap.size < w.heap.size + 1 := by omega
  go_wp2_with fail
  refine (l04DrawPerm_any w.heap.size 0 k _ S.src (by omega) (by omega)).mono ?_
  rintro e w3 ⟨R, rc, r, q3, rfl, hor, hlr, hpr, S3, hq3⟩
  have S := S.then_ S3
  have hor := hor.more (B' := w.heap.size + 1) hgl
  clear S3
  go_wp2_with fail
  refine (l04DrawPerm_any w.heap.size q3 k _ S.src (by omega) (by omega)).mono ?_
  rintro e w4 ⟨K, kc, kk, q4, rfl, hok, hlk, hpk, S4, hq4⟩
  have hsz := S.size
  have hor := hor.keptB S4.grown hB
  have hok := hok.more (B' := w.heap.size + 1) (by omega)
  have S := S.then_ S4
  clear S4 hsz
  go_wp2_with fail
  refine (l04DrawPerm_any w.heap.size q4 k _ S.src (by omega) (by omega)).mono ?_
  rintro e w5 ⟨Z, zc, z, q5, rfl, hoz, hlz, hpz, S5, hq5⟩
  have hsz := S.size
  have hor := hor.keptB S5.grown hB
  have hok := hok.keptB S5.grown hB
  have hoz := hoz.more (B' := w.heap.size + 1) (by omega)
  have S := S.then_ S5
  clear S5 hsz
  have hb : Below w.heap.size w w5 := ⟨S.grown.os.trans hb1.os, S.grown.tape.trans hb1.tape, S.grown.output.trans hb1.output, by have := S.size; have := hb1.size; omega, fun j hj => by
    rw [S.grown.block j (by have := hb1.size; omega) (fun e => by injection e with e; omega)]
    exact hb1.block j hj⟩
  have hx5 := hx.keep hb
  clear S hs1 hb1
  have HI := l06Isotope_any X k d a R rc r K kc kk Z zc z w5 hx5 hor.reads hok.reads hoz.reads hq hpr hpk hpz
  clear hor hok hoz hx5 ha hx
  go_wp2_with fail
  refine HI.mono ?_
  rintro e w7 ⟨A7, c7, b7, rfl, ho7, hF7, hb7⟩
  have hS7 := isotope_square hq hl hpr hlr hpk hlk hpz hlz hF7
  have ho7 := ho7.more hb.size
  have hb8 := hb.trans (hb7.mono hb.size)
  clear HI hb hb7
  go_wp2
  go_ret
  exact ⟨_, _, _, _, _, _, rfl, ho7, hS7, ⟨hpr, hlr⟩, ⟨hpk, hlk⟩, ⟨hpz, hlz⟩, hF7, hb8⟩
def factN : Nat → Nat
  | 0 => 1
  | n + 1 => factN n * (n + 1)
theorem factN_pos (n : Nat) : 0 < factN n := by
  induction n with
  | zero => decide
  | succ n ih => exact Nat.mul_pos ih (by omega)
theorem factN_le {n : Nat} (h : n ≤ 9) : factN n ≤ 362880 := by
  have : n = 0 ∨ n = 1 ∨ n = 2 ∨ n = 3 ∨ n = 4 ∨ n = 5 ∨ n = 6 ∨ n = 7 ∨ n = 8 ∨ n = 9 := by omega
  rcases this with rfl | rfl | rfl | rfl | rfl | rfl | rfl | rfl | rfl | rfl <;> decide
set_option maxHeartbeats 800000 in
theorem l04Factorial_any (n : Nat) (w : World) (hn : n ≤ 8) :
    Calls Tryz.prog 176 #[.int .i64 n] w (fun e w' => e = .returned (.int .i64 (factN n : Nat)) ∧ w = w') := by
  go_enter Tryz.func176, Tryz.ntmps176
  go_wp2
  go_loop [3, 4] (fun o i => ∃ k : Nat, k + 1 ≤ max n 1 ∧ i = .int .i64 ((k : Int) + 2) ∧ o = .int .i64 (factN (k + 1) : Nat)) (fun _ i => n + 2 - (intOf i).toNat)
  case atStart => exact ⟨0, by omega, by go_num, rfl⟩
  case round =>
    obtain ⟨k, hk, rfl, rfl⟩ := hrel
    by_cases hlt : k + 2 ≤ n
    · have HM := Lib.hid (show ((factN (k + 1) : Nat) : Int) * ((k : Int) + 2) = ((factN (k + 2) : Nat) : Int) by rw [show factN (k + 2) = factN (k + 1) * (k + 2) from rfl]; simp)
      have hle := factN_le (n := k + 2) (by omega)
      have hle1 := factN_le (n := k + 1) (by omega)
      have hw : IntKind.i64.wrap (((factN (k + 1) : Nat) : Int) * ((k : Int) + 2)) = ((factN (k + 2) : Nat) : Int) := by rw [HM.out]; exact IntWalk.i64_in _ (by omega)
      have hk2 : (k : Int) + 2 ≤ n := by omega
      obtain ⟨f2, hf2⟩ : ∃ f2, f2 = factN (k + 2) := ⟨_, rfl⟩
      rw [← hf2] at hw hle
      have HF2 := Lib.hid hf2
      clear hf2 HM hle1
      generalize factN (k + 1) = f1 at *
      go_wp2
      go_round
      case rel => exact ⟨k + 1, by omega, by go_num, by rw [HF2.out]⟩
      case measure => simp [intOf]; omega
    · have HE := Lib.hid (show factN (k + 1) = factN n by
        by_cases h1 : 1 ≤ n
        · rw [show k + 1 = n by omega]
        · rw [show n = 0 by omega, show k = 0 by omega]; rfl)
      have hk2 : ¬ (k : Int) + 2 ≤ n := by omega
      rw [HE.out]
      go_wp2
      go_ret
      exact ⟨rfl, rfl⟩
def unrP : Nat → List Int → Nat → List Int
  | 0, _, _ => []
  | k + 1, left, rank => nth left (rank / factN k) :: unrP k (left.take (rank / factN k) ++ left.drop (rank / factN k + 1)) (rank % factN k)
theorem RI.drop {w : World} {ad : Addr} {n : Nat} {zs : List Int} (h : RI w (some ad) n zs) {k : Nat} (hk : k ≤ n) : RI w (some (ad.add k)) (n - k) (zs.drop k) := by
  refine ⟨by rw [List.length_drop, h.len], fun j z hz => ?_⟩
  rw [List.getElem?_drop] at hz
  obtain ⟨ad', v, ha, hc, r⟩ := RS.at_ h (k + j) z hz
  cases ha
  refine ⟨ad.add k, v, rfl, ?_, r⟩
  have : (ad.add k).add j = ad.add (k + j) := by
    unfold Addr.add
    by_cases hk : k = 0
    · subst hk; simp
    · by_cases hj : j = 0
      · subst hj; simp
      · simp [hk, hj, Nat.add_assoc]
  rw [this]; exact hc
theorem apart_new {w : World} {B : Nat} {e : TypeId} {A A' : Option Addr} {n c : Nat} {zs : List Int} (h : OI w B e A n c zs) (hn : ∀ b, blk A' = some b → w.heap.size ≤ b) : blk A = none ∨ blk A ≠ blk A' := by
  cases hA : blk A with
  | none => exact .inl rfl
  | some a =>
    refine .inr fun e => ?_
    have := (h.os.lt hA).2
    have := hn a e.symm
    omega
theorem sep_sw {A A' : Option Addr} (h : blk A = none ∨ blk A ≠ blk A') : blk A' = none ∨ blk A' ≠ blk A := by
  rcases h with h | h
  · by_cases k : blk A' = none
    · exact .inl k
    · exact .inr (by rw [h]; exact k)
  · exact .inr h.symm
theorem sep_app {w : World} {B : Nat} {e : TypeId} {A A' C : Option Addr} {n c : Nat} {zs : List Int} (h : OI w B e C n c zs) (hs : blk C = none ∨ blk C ≠ blk A) (hf : blk A' = blk A ∨ ∃ k, blk A' = some k ∧ w.heap.size ≤ k) : blk C = none ∨ blk C ≠ blk A' := by
  rcases hf with hf | ⟨k, hf, hk⟩
  · rw [hf]; exact hs
  · exact apart_new h (fun b hb => by rw [hf] at hb; injection hb with hb; omega)
def lenV (v : Value) : Nat := match v with | .slice _ n _ => n | _ => 0
structure Unr (w wr : World) (AL : Option Addr) (nl cl : Nat) (L : List Int) (AO : Option Addr) (no co : Nat) (O : List Int) : Prop where
  l : OI wr w.heap.size 2 AL nl cl L
  o : OI wr w.heap.size 2 AO no co O
  sep : blk AL = none ∨ blk AL ≠ blk AO
  b : Below w.heap.size w wr
set_option maxRecDepth 100000 in
set_option maxHeartbeats 1000000 in
theorem l04Unrank_any (n rank : Nat) (w : World) (hn : n ≤ 8) (hr : rank < factN n) :
    Calls Tryz.prog 123 #[.int .i64 n, .int .i64 rank] w (RetI w 2 (unrP n (iotaP n) rank)) := by
  go_enter Tryz.func123, Tryz.ntmps123
  go_wp2_with fail
  refine (l04One_any n w (by omega)).mono ?_
  rintro e w1 ⟨AL, nl, cl, rfl, ho, hb⟩
  obtain rfl : nl = n := by rw [← ho.len, iotaP_len]
  have o1 : OI (w1.alloc (.cells #[] 2)) w.heap.size 2 (some ⟨w1.heap.size, 0, none⟩) 0 0 [] := by simpa [ints] using OI.lit w1 w.heap.size 2 [] hb.size (by simp) (by simp [All64])
  have hb1 := below_alloc w1 (.cells #[] 2)
  have U : Unr w (w1.alloc (.cells #[] 2)) AL nl cl (iotaP nl) (some ⟨w1.heap.size, 0, none⟩) 0 0 [] :=
    ⟨ho.below hb1, o1, apart_new ho (fun b hb => by simp [blk] at hb; omega), hb.trans (hb1.mono hb.size)⟩
  clear ho o1 hb hb1
  have HU := Lib.hid (show ([] : List Int) ++ unrP nl (iotaP nl) rank = unrP nl (iotaP nl) rank from rfl)
  obtain ⟨res, hres⟩ : ∃ res, res = unrP nl (iotaP nl) rank := ⟨_, rfl⟩
  rw [← hres] at HU ⊢
  rw [hres] at HU
  have HRES := Lib.hid hres
  clear hres
  go_wp2
  go_loopw [1, 5, 6] (fun rv lv ov wr => ∃ (k r : Nat) (AL : Option Addr) (cl : Nat) (L : List Int) (AO : Option Addr) (no co : Nat) (O : List Int), rv = .int .i64 r ∧ lv = .slice AL k cl ∧ ov = .slice AO no co ∧ Unr w wr AL k cl L AO no co O ∧ Hid (O ++ unrP k L r = res) ∧ r < factN k ∧ no + k = nl) (fun _ lv _ _ => lenV lv)
  case atStart => exact ⟨nl, rank, AL, cl, iotaP nl, _, 0, 0, [], rfl, rfl, by simp, U, Lib.hid (by rw [HRES.out]; rfl), hr, by omega⟩
  case round =>
    clear U hr HU
    obtain ⟨k, r, AL, cl, L, AO, no, co, O, rfl, rfl, rfl, U, HO, hr, hno⟩ := hrel
    by_cases hk0 : 0 < k
    · obtain ⟨j, hj⟩ : ∃ j, k = j + 1 := ⟨k - 1, by omega⟩
      have hfc : ∀ W, Calls Tryz.prog 176 #[.int .i64 ((k : Int) - 1)] W (fun e w' => e = .returned (.int .i64 (factN j : Nat)) ∧ W = w') := fun W => by
        rw [show (k : Int) - 1 = ((j : Nat) : Int) by omega]; exact l04Factorial_any j W (by omega)
      have hfp := factN_pos j
      have hfl := factN_le (n := j) (by omega)
      have hrl := factN_le (n := k) (by omega)
      have hat : r / factN j < k := by rw [hj] at hr ⊢; exact Nat.div_lt_of_lt_mul hr
      have hrm : r % factN j < factN j := Nat.mod_lt _ hfp
      have hstep : O ++ [nth L (r / factN j)] ++ unrP j (L.take (r / factN j) ++ L.drop (r / factN j + 1)) (r % factN j) = res := by
        rw [← HO.out, hj, List.append_assoc]; rfl
      have q1 : (r : Int).tdiv ((factN j : Nat) : Int) = ((r / factN j : Nat) : Int) := by rw [Int.tdiv_eq_ediv_of_nonneg (by omega)]; rfl
      have q2 : (r : Int).tmod ((factN j : Nat) : Int) = ((r % factN j : Nat) : Int) := by rw [Int.tmod_eq_emod_of_nonneg (by omega)]; rfl
      obtain ⟨F, hF⟩ : ∃ F, F = factN j := ⟨_, rfl⟩
      have HF := Lib.hid hF
      rw [← hF] at hfc hfp hfl hat hrm hstep q1 q2
      clear hF
      generalize r / F = a at *
      generalize r % F = b at *
      have HS := Lib.hid hstep
      have HJ := Lib.hid hj
      clear hstep hj HO
      have hlL := U.l.len
      have hfF : ¬ F = 0 := by omega
      obtain ⟨g, rfl, cv, -, iv⟩ := U.l.cell hat
      have hcap := U.l.os.cap
      have wa : IntKind.i64.wrap (a : Int) = a := IntWalk.i64_in _ (by omega)
      have hsz := U.b.size
      have HLL := Lib.hid hlL
      have hao := U.o
      have hal := U.l
      have hsep := Lib.hid U.sep
      have hbw := U.b
      generalize hv : nth L a = v at *
      have HV := Lib.hid hv
      clear hv U hlL
      by_cases hcc : a + 1 < cl
      · go_wp2_with (first
          | (go_at_call 176; refine (hfc _).mono ?_; rintro e w2 ⟨rfl, rfl⟩)
          | (at_builtin; refine app_int _ rfl (.tmp 26) (.tmp 31) rfl w.heap.size AO no co O rfl hao v wr.heap.size rfl rfl iv (by omega) hsz ?_; intro A4 c4 w4 ho4 hg4 hf4; have hl4 := hal.kept hg4 hsep.out; have hs4 := Lib.hid (sep_app hal hsep.out hf4); have hb4 := below_own hbw hg4 hsz (fun q hq => (hao.os.lt hq).1)))
        refine (l00Own_any _ a cl (L.take a) w4 (RI.take hl4.reads (by omega)) (by omega)).mono ?_
        rintro e w5 ⟨A5, n5, c5, rfl, ho5, hb5⟩
        have hn5 : n5 = a := by rw [← ho5.len, List.length_take, HLL.out]; omega
        subst hn5
        have hl5 := hl4.below hb5
        have hO5 := ho4.below hb5
        have hb6 := hb4.trans (hb5.mono hb4.size)
        have hr5 := RI.drop hl5.reads (k := n5 + 1) (by omega)
        rw [Addr.add_lit, Nat.zero_add] at hr5
        have hsz5 := hb6.size
        have ho5' := ho5.more hb4.size
        have hsep5 := Lib.hid (apart_new ho4 (A' := A5) (fun b hb => (ho5.os.lt hb).1))
        clear hl5 hl4 ho5 hb5 hb4
        go_wp2_with (at_builtin; refine app_ints _ rfl (.tmp 37) (.tmp 41) rfl w.heap.size A5 n5 c5 (L.take n5) rfl ho5' (some ⟨g, n5 + 1, none⟩) (k - (n5 + 1)) (cl - (n5 + 1)) (L.drop (n5 + 1)) rfl hr5 (by omega) hsz5 ?_; intro A7 c7 w7 ho7 hg7 hf7)
        have hO7 := hO5.kept hg7 hsep5.out
        have hs7 := Lib.hid (sep_app hO5 hsep5.out (hf7.elim .inl fun e => .inr ⟨_, e, Nat.le_refl _⟩))
        have hb7 := below_own hb6 hg7 hsz5 (fun q hq => (ho5'.os.lt hq).1)
        have hlen : n5 + (k - (n5 + 1)) = j := by have := HJ.out; omega
        have HLEN := Lib.hid hlen
        rw [hlen] at ho7
        clear hlen
        go_roundw
        case rel => exact ⟨j, b, A7, c7, _, A4, no + 1, c4, O ++ [v], rfl, by rw [HLEN.out], rfl, ⟨ho7, hO7, sep_sw hs7.out, hb7⟩, HS, by rw [← HF.out]; exact hrm, by have := HJ.out; omega⟩
        case measure => simp only [lenV]; have := HJ.out; have := HLEN.out; omega
      · have hcl : cl = k := by omega
        obtain rfl := hcl
        go_wp2_with (first
          | (go_at_call 176; refine (hfc _).mono ?_; rintro e w2 ⟨rfl, rfl⟩)
          | (at_builtin; refine app_int _ rfl (.tmp 26) (.tmp 31) rfl w.heap.size AO no co O rfl hao v wr.heap.size rfl rfl iv (by omega) hsz ?_; intro A4 c4 w4 ho4 hg4 hf4; have hl4 := hal.kept hg4 hsep.out; have hs4 := Lib.hid (sep_app hal hsep.out hf4); have hb4 := below_own hbw hg4 hsz (fun q hq => (hao.os.lt hq).1)))
        refine (l00Own_any _ a cl (L.take a) w4 (RI.take hl4.reads (by omega)) (by omega)).mono ?_
        rintro e w5 ⟨A5, n5, c5, rfl, ho5, hb5⟩
        have hn5 : n5 = a := by rw [← ho5.len, List.length_take, HLL.out]; omega
        subst hn5
        have hl5 := hl4.below hb5
        have hO5 := ho4.below hb5
        have hb6 := hb4.trans (hb5.mono hb4.size)
        have hr5 : RI w5 (some ⟨g, 0, none⟩) (cl - (n5 + 1)) (L.drop (n5 + 1)) := by
          rw [List.drop_eq_nil_of_le (by rw [HLL.out]; omega), show cl - (n5 + 1) = 0 by omega]
          exact RS.nil_ _ _ _
        have hsz5 := hb6.size
        have ho5' := ho5.more hb4.size
        have hsep5 := Lib.hid (apart_new ho4 (A' := A5) (fun b hb => (ho5.os.lt hb).1))
        clear hl5 hl4 ho5 hb5 hb4
        go_wp2_with (at_builtin; refine app_ints _ rfl (.tmp 37) (.tmp 41) rfl w.heap.size A5 n5 c5 (L.take n5) rfl ho5' (some ⟨g, 0, none⟩) (cl - (n5 + 1)) (cl - (n5 + 1)) (L.drop (n5 + 1)) rfl hr5 (by omega) hsz5 ?_; intro A7 c7 w7 ho7 hg7 hf7)
        have hO7 := hO5.kept hg7 hsep5.out
        have hs7 := Lib.hid (sep_app hO5 hsep5.out (hf7.elim .inl fun e => .inr ⟨_, e, Nat.le_refl _⟩))
        have hb7 := below_own hb6 hg7 hsz5 (fun q hq => (ho5'.os.lt hq).1)
        have hlen : n5 + (cl - (n5 + 1)) = j := by have := HJ.out; omega
        have HLEN := Lib.hid hlen
        rw [hlen] at ho7
        clear hlen
        go_roundw
        case rel => exact ⟨j, b, A7, c7, _, A4, no + 1, c4, O ++ [v], rfl, by rw [HLEN.out], rfl, ⟨ho7, hO7, sep_sw hs7.out, hb7⟩, HS, by rw [← HF.out]; exact hrm, by have := HJ.out; omega⟩
        case measure => simp only [lenV]; have := HJ.out; have := HLEN.out; omega
    · obtain rfl : k = 0 := by omega
      have HO2 : Hid (O = res) := Lib.hid (by have := HO.out; simpa [unrP] using this)
      obtain ⟨-, ho, -, hb⟩ := U
      go_wp2
      go_ret
      exact ⟨_, _, _, rfl, by rw [← HRES.out, ← HO2.out]; exact ho, hb⟩
def cjp (kind : Nat) (i : Nat) : Nat := (nth (unrP 3 (iotaP 3) kind) i).toNat
theorem cjp_lt {kind : Nat} (h : kind < 6) {i : Nat} (hi : i < 3) : cjp kind i < 3 ∧ nth (unrP 3 (iotaP 3) kind) i = (cjp kind i : Nat) := by
  have hk : kind = 0 ∨ kind = 1 ∨ kind = 2 ∨ kind = 3 ∨ kind = 4 ∨ kind = 5 := by omega
  have h3 : i = 0 ∨ i = 1 ∨ i = 2 := by omega
  rcases hk with rfl | rfl | rfl | rfl | rfl | rfl <;> rcases h3 with rfl | rfl | rfl <;> decide +kernel
theorem cjp_ne {kind : Nat} (h : kind < 6) : cjp kind 0 ≠ cjp kind 1 ∧ cjp kind 0 ≠ cjp kind 2 ∧ cjp kind 1 ≠ cjp kind 2 := by
  have hk : kind = 0 ∨ kind = 1 ∨ kind = 2 ∨ kind = 3 ∨ kind = 4 ∨ kind = 5 := by omega
  rcases hk with rfl | rfl | rfl | rfl | rfl | rfl <;> decide +kernel
theorem unr3_len {kind : Nat} (h : kind < 6) : (unrP 3 (iotaP 3) kind).length = 3 := by
  have hk : kind = 0 ∨ kind = 1 ∨ kind = 2 ∨ kind = 3 ∨ kind = 4 ∨ kind = 5 := by omega
  rcases hk with rfl | rfl | rfl | rfl | rfl | rfl <;> decide +kernel
section
variable {b : List (List Int)} {n : Nat} {p : Nat → Nat}
theorem tri_inj (hs : Square b) (hn : b.length = n) {i j : Nat} (hi : i < 3) (hj : j < 3) (hij : i ≠ j) : ∀ u v u' v', u < n → v < n → u' < n → v' < n → triN b u v i = triN b u' v' i → triN b u v j = triN b u' v' j → u = u' ∧ v = v' :=
  fun u v u' v' hu hv hu' hv' e1 e2 => tri_two hs hn hu hv hu' hv' hi hj hij e1 e2
theorem conj_square (hs : Square b) (hn : b.length = n) {i j k : Nat} (hi : i < 3) (hj : j < 3) (hk : k < 3) (hij : i ≠ j) (hik : i ≠ k) (hjk : j ≠ k) {c : List (List Int)}
    (h : Fil n (fun x y => triN b x y i) (fun x y => triN b x y j) (fun x y => (triN b x y k : Int)) c n 0) : Square c := by
  have h1 : 1 ≤ n := by rw [← hn]; exact hs.1
  have h10 : n ≤ 10 := by rw [← hn]; exact hs.2.1
  exact square_of_tri h1 h10 (fun u v hu hv => ⟨triN_lt hs hn hu hv i, triN_lt hs hn hu hv j, triN_lt hs hn hu hv k⟩) (tri_inj hs hn hi hj hij) (tri_inj hs hn hi hk hik) (tri_inj hs hn hj hk hjk) h
end
set_option maxRecDepth 100000 in
set_option maxHeartbeats 1000000 in
theorem l06Conjugate_any (A : Option Addr) (n c kind : Nat) (a : List (List Int)) (w : World) (ha : RR w A n a) (hq : Square a) (hk6 : kind < 6) :
    Calls Tryz.prog 64 #[.slice A n c, .int .i64 kind] w (fun e w' => ∃ A' c' b, e = .returned (.slice A' n c') ∧ OR w' w.heap.size 22 2 A' n c' b ∧ Fil n (fun x y => triN a x y (cjp kind 0)) (fun x y => triN a x y (cjp kind 1)) (fun x y => (triN a x y (cjp kind 2) : Int)) b n 0 ∧ Below w.heap.size w w') := by
  have hl := Lib.hid ha.len
  have HQ := Lib.hid hq
  have n2 : n ≤ 10 := by rw [← hl.out]; exact hq.2.1
  have HN := Lib.hid (cjp_ne hk6)
  have H3 := Lib.hid (unr3_len hk6)
  have HC := Lib.hid (fun (i : Nat) (hi : i < 3) => cjp_lt hk6 hi)
  have hun := l04Unrank_any 3 kind
  have HP : Hid (∀ u v, u < n → v < n → (fun x y => triN a x y (cjp kind 0) : Nat → Nat → Nat) u v < n ∧ (fun x y => triN a x y (cjp kind 1) : Nat → Nat → Nat) u v < n) := Lib.hid fun u v hu hv => ⟨triN_lt hq hl.out hu hv _, triN_lt hq hl.out hu hv _⟩
  have HI : Hid (∀ u v u' v', u < n → v < n → u' < n → v' < n → (fun x y => triN a x y (cjp kind 0) : Nat → Nat → Nat) u v = (fun x y => triN a x y (cjp kind 0) : Nat → Nat → Nat) u' v' → (fun x y => triN a x y (cjp kind 1) : Nat → Nat → Nat) u v = (fun x y => triN a x y (cjp kind 1) : Nat → Nat → Nat) u' v' → u = u' ∧ v = v') :=
    Lib.hid (tri_inj hq hl.out (HC.out 0 (by omega)).1 (HC.out 1 (by omega)).1 HN.out.1)
  obtain ⟨f, hf⟩ : ∃ f : Nat → Nat → Int, f = fun x y => (triN a x y (cjp kind 2) : Int) := ⟨_, rfl⟩
  obtain ⟨p1, hp1⟩ : ∃ p1 : Nat → Nat → Nat, p1 = fun x y => triN a x y (cjp kind 0) := ⟨_, rfl⟩
  obtain ⟨p2, hp2⟩ : ∃ p2 : Nat → Nat → Nat, p2 = fun x y => triN a x y (cjp kind 1) := ⟨_, rfl⟩
  rw [← hf, ← hp1, ← hp2]
  rw [← hp1, ← hp2] at HP HI
  have HF := Lib.hid hf
  have H1 := Lib.hid hp1
  have H2 := Lib.hid hp2
  clear hf hp1 hp2 hq
  go_enter Tryz.func64, Tryz.ntmps64
  go_wp2_with fail
  refine (hun w (by omega) (by have : factN 3 = 6 := by decide
                               omega)).mono ?_
  rintro e w0 ⟨X, xn, xc, rfl, hox, hbx⟩
  obtain rfl : xn = 3 := by rw [← hox.len, H3.out]
  clear hun
  go_wp2_with fail
  refine (l06Zero_any n n w0 (by omega) (by omega)).mono ?_
  rintro e w1 ⟨G, N1, cg, rfl, ⟨vs, ho⟩, hw⟩
  obtain rfl : N1 = n := by rw [← ho.slen, zerosP_len]
  have S : FSt w0 w1 N1 G cg vs p1 p2 f 0 0 := ⟨⟨_, ho, Fil.start _ _ _ _⟩, hw⟩
  clear ho hw
  go_wp2
  go_loopw [8] (fun i wr => ∃ x : Nat, x ≤ N1 ∧ i = .int .i64 x ∧ FSt w0 wr N1 G cg vs p1 p2 f x 0) (fun i _ => N1 - (intOf i).toNat)
  case atStart => exact ⟨0, Nat.zero_le _, rfl, S⟩
  case round =>
    clear S
    obtain ⟨x, hx, rfl, S⟩ := hrel
    by_cases hlt : x < N1
    · go_wp2
      go_loopw [9] (fun i wr => ∃ y : Nat, y ≤ N1 ∧ i = .int .i64 y ∧ FSt w0 wr N1 G cg vs p1 p2 f x y) (fun i _ => N1 - (intOf i).toNat)
      case atStart => exact ⟨0, Nat.zero_le _, rfl, S⟩
      case round =>
        clear S
        obtain ⟨y, hy, rfl, S⟩ := hrel
        by_cases hly : y < N1
        · have hb0 := hbx.trans (S.b.mono hbx.size)
          have hsr := HQ.out.2.2.1 x (by rw [hl.out]; exact hlt)
          rw [hl.out] at hsr
          obtain ⟨aa, ra, ma, ca, rfl, ca1, ea, ka1, ka2, ca2, ia⟩ := (ha.keep hb0).get2 hlt (j := y) (by rw [hsr.1]; exact hly)
          obtain ⟨vs', e3, v3, e3'⟩ := perm_at_ hsr.2 hsr.1 hly
          obtain rfl : N1 = ma := by rw [← ea, hsr.1]
          rw [e3] at ca2
          have hT : ∀ i, i < 3 → (wr.alloc (.cells #[.int .i64 (x : Int), .int .i64 (y : Int), .int .i64 (vs' : Int)] 2)).cell? ⟨wr.heap.size, i, none⟩ = some (.int .i64 (triN a x y i : Nat)) := fun i hi => by
            rw [cell_new]
            have : i = 0 ∨ i = 1 ∨ i = 2 := by omega
            rcases this with rfl | rfl | rfl
            · rfl
            · rfl
            · simp [triN, e3']
          have S1 := S.below (below_alloc wr (.cells #[.int .i64 (x : Int), .int .i64 (y : Int), .int .i64 (vs' : Int)] 2))
          have hX := hox.below S1.b
          obtain ⟨z0, d0⟩ := HC.out 0 (by omega)
          obtain ⟨z1, d1⟩ := HC.out 1 (by omega)
          obtain ⟨z2, d2⟩ := HC.out 2 (by omega)
          obtain ⟨ax, rfl, cx0, -, -⟩ := hX.cell (k := 0) (by omega)
          obtain ⟨ax', hax, cx1, -, -⟩ := hX.cell (k := 1) (by omega)
          cases hax
          obtain ⟨ax', hax, cx2, -, -⟩ := hX.cell (k := 2) (by omega)
          cases hax
          rw [d0] at cx0
          rw [d1] at cx1
          rw [d2] at cx2
          have ct0 := hT _ z0
          have ct1 := hT _ z1
          have ct2 := hT _ z2
          obtain ⟨g, rr, k, rfl, c1, k1, k2, ⟨u, c2⟩, f2, hr, S2⟩ := S1.put hlt hly HP.out HI.out (by
            rw [HF.out]; dsimp only; have := triN_lt HQ.out hl.out hlt hly (cjp kind 2); unfold I64; omega)
          have hp1x : p1 x y = triN a x y (cjp kind 0) := by rw [H1.out]
          have hp2x : p2 x y = triN a x y (cjp kind 1) := by rw [H2.out]
          have hfx : f x y = (triN a x y (cjp kind 2) : Nat) := by rw [HF.out]
          have t1 := triN_lt HQ.out hl.out hlt hly (cjp kind 0)
          have t2 := triN_lt HQ.out hl.out hlt hly (cjp kind 1)
          rw [hp1x] at c1
          rw [hp2x] at c2 f2
          rw [hp2x, hfx] at S2
          have HS := Lib.hid (S2.below (below_drewn _ 1))
          clear S S1 S2 hp1x hp2x hfx e3 e3' ia hsr ea hT d0 d1 d2 hX
          simp only [← World.drew_is_drewN] at HS
          generalize triN a x y (cjp kind 0) = q0 at *
          generalize triN a x y (cjp kind 1) = q1 at *
          generalize triN a x y (cjp kind 2) = q2 at *
          generalize cjp kind 0 = j0 at *
          generalize cjp kind 1 = j1 at *
          generalize cjp kind 2 = j2 at *
          have w0' : IntKind.i64.wrap (q0 : Int) = q0 := IntWalk.i64_in _ (by omega)
          have w1' : IntKind.i64.wrap (q1 : Int) = q1 := IntWalk.i64_in _ (by omega)
          have w3' : IntKind.i64.wrap (j0 : Int) = j0 := IntWalk.i64_in _ (by omega)
          have w4' : IntKind.i64.wrap (j1 : Int) = j1 := IntWalk.i64_in _ (by omega)
          have w5' : IntKind.i64.wrap (j2 : Int) = j2 := IntWalk.i64_in _ (by omega)
          have i0' : (j0 : Int) < 3 := by omega
          have i1' : (j1 : Int) < 3 := by omega
          have i2' : (j2 : Int) < 3 := by omega
          have i3' : (q0 : Int) < N1 := by omega
          have i4' : (q1 : Int) < N1 := by omega
          go_wp2
          clear ca1 ca2
          generalize wr.heap.size = T at *
          generalize (wr.alloc (.cells #[.int .i64 (x : Int), .int .i64 (y : Int), .int .i64 (vs' : Int)] 2)) = W at *
          refine region_last (P := Tryz.prog) (S := (fun w' => w'.cell? ⟨g, q0, none⟩ = some (.slice (some ⟨rr, 0, none⟩) N1 k) ∧ w'.cell? ⟨ax, 0, none⟩ = some (.int .i64 j0) ∧ w'.cell? ⟨ax, 1, none⟩ = some (.int .i64 j1) ∧ w'.cell? ⟨ax, 2, none⟩ = some (.int .i64 j2) ∧ w'.cell? ⟨T, j0, none⟩ = some (.int .i64 q0) ∧ w'.cell? ⟨T, j1, none⟩ = some (.int .i64 q1) ∧ w'.cell? ⟨T, j2, none⟩ = some (.int .i64 q2))) (by kernel_rfl) (by simp only [List.getLast?_cons_cons, List.getLast?_singleton]; rfl) (by dsimp only [List.dropLast]) (by kernel_rfl) ?_ ?_
          · exact ⟨by simpa using c1, by simpa using cx0, by simpa using cx1, by simpa using cx2, by simpa using ct0, by simpa using ct1, by simpa using ct2⟩
          intro hS
          refine wpAnyH_take (i := 0) (v := ?_) rfl (by kernel_rfl) (by kernel_rfl) (by kernel_rfl) (fun _ _ _ h => h) (Or.inl ⟨by rfl, ?_⟩) (by assumption) ?_
          rotate_left
          · (intro w hSw; (try dsimp only at hSw); go_simp; (try with_reducible rfl))
          simp only [Act.put, List.setIfInBounds_toArray, List.set_cons_zero, List.set_cons_succ]
          refine wpAnyH_take (i := 1) (v := ?_) rfl (by kernel_rfl) (by kernel_rfl) (by kernel_rfl) (fun _ _ _ h => h) (Or.inl ⟨by rfl, ?_⟩) (by assumption) ?_
          rotate_left
          · (intro w hSw; (try dsimp only at hSw); go_simp; (try with_reducible rfl))
          simp only [Act.put, List.setIfInBounds_toArray, List.set_cons_zero, List.set_cons_succ]
          refine wpAnyH_take (i := 2) (v := ?_) rfl (by kernel_rfl) (by kernel_rfl) (by kernel_rfl) (fun _ _ _ h => h) (Or.inl ⟨by rfl, ?_⟩) (by assumption) ?_
          rotate_left
          · (intro w hSw; (try dsimp only at hSw); go_simp; (try with_reducible rfl))
          simp only [Act.put, List.setIfInBounds_toArray, List.set_cons_zero, List.set_cons_succ]
          refine wpAnyH_take (i := 3) (v := ?_) rfl (by kernel_rfl) (by kernel_rfl) (by kernel_rfl) (fun _ _ _ h => h) (Or.inl ⟨by rfl, ?_⟩) (by assumption) ?_
          rotate_left
          · (intro w hSw; (try dsimp only at hSw); go_simp; (try with_reducible rfl))
          simp only [Act.put, List.setIfInBounds_toArray, List.set_cons_zero, List.set_cons_succ]
          refine wpAnyH_take (i := 4) (v := ?_) rfl (by kernel_rfl) (by kernel_rfl) (by kernel_rfl) (fun _ _ _ h => h) (Or.inl ⟨by rfl, ?_⟩) (by assumption) ?_
          rotate_left
          · (intro w hSw; (try dsimp only at hSw); go_simp; (try with_reducible rfl))
          simp only [Act.put, List.setIfInBounds_toArray, List.set_cons_zero, List.set_cons_succ]
          refine wpAnyH_take (i := 5) (v := ?_) rfl (by kernel_rfl) (by kernel_rfl) (by kernel_rfl) (fun _ _ _ h => h) (Or.inl ⟨by rfl, ?_⟩) (by assumption) ?_
          rotate_left
          · (intro w hSw; (try dsimp only at hSw); go_simp; (try with_reducible rfl))
          simp only [Act.put, List.setIfInBounds_toArray, List.set_cons_zero, List.set_cons_succ]
          refine wpAnyH_take (i := 6) (v := ?_) rfl (by kernel_rfl) (by kernel_rfl) (by kernel_rfl) (fun _ _ _ h => h) (Or.inl ⟨by rfl, ?_⟩) (by assumption) ?_
          rotate_left
          · (intro w hSw; (try dsimp only at hSw); go_simp; (try with_reducible rfl))
          simp only [Act.put, List.setIfInBounds_toArray, List.set_cons_zero, List.set_cons_succ]
          refine wpAnyH_take (i := 7) (v := ?_) rfl (by kernel_rfl) (by kernel_rfl) (by kernel_rfl) (fun _ _ _ h => h) (Or.inl ⟨by rfl, ?_⟩) (by assumption) ?_
          rotate_left
          · (intro w hSw; (try dsimp only at hSw); go_simp; (try with_reducible rfl))
          simp only [Act.put, List.setIfInBounds_toArray, List.set_cons_zero, List.set_cons_succ]
          refine wpAnyH_take (i := 8) (v := ?_) rfl (by kernel_rfl) (by kernel_rfl) (by kernel_rfl) (fun _ _ _ h => h) (Or.inl ⟨by rfl, ?_⟩) (by assumption) ?_
          rotate_left
          · (intro w hSw; (try dsimp only at hSw); go_simp; (try with_reducible rfl))
          simp only [Act.put, List.setIfInBounds_toArray, List.set_cons_zero, List.set_cons_succ]
          refine wpAnyH_take (i := 9) (v := ?_) rfl (by kernel_rfl) (by kernel_rfl) (by kernel_rfl) (fun _ _ _ h => h) (Or.inl ⟨by rfl, ?_⟩) (by assumption) ?_
          rotate_left
          · (intro w hSw; (try dsimp only at hSw); go_simp; (try with_reducible rfl))
          simp only [Act.put, List.setIfInBounds_toArray, List.set_cons_zero, List.set_cons_succ]
          refine wpAnyH_take (i := 10) (v := ?_) rfl (by kernel_rfl) (by kernel_rfl) (by kernel_rfl) (fun _ _ _ h => h) (Or.inl ⟨by rfl, ?_⟩) (by assumption) ?_
          rotate_left
          · (intro w hSw; (try dsimp only at hSw); go_simp; (try with_reducible rfl))
          simp only [Act.put, List.setIfInBounds_toArray, List.set_cons_zero, List.set_cons_succ]
          refine wpAnyH_take (i := 11) (v := ?_) rfl (by kernel_rfl) (by kernel_rfl) (by kernel_rfl) (fun _ _ _ h => h) (Or.inl ⟨by rfl, ?_⟩) (by assumption) ?_
          rotate_left
          · (intro w hSw; (try dsimp only at hSw); go_simp; (try with_reducible rfl))
          simp only [Act.put, List.setIfInBounds_toArray, List.set_cons_zero, List.set_cons_succ]
          refine wpAnyH_take (i := 12) (v := ?_) rfl (by kernel_rfl) (by kernel_rfl) (by kernel_rfl) (fun _ _ _ h => h) (Or.inl ⟨by rfl, ?_⟩) (by assumption) ?_
          rotate_left
          · (intro w hSw; (try dsimp only at hSw); go_simp; (try with_reducible rfl))
          simp only [Act.put, List.setIfInBounds_toArray, List.set_cons_zero, List.set_cons_succ]
          refine wpAnyH_take (i := 13) (v := ?_) rfl (by kernel_rfl) (by kernel_rfl) (by kernel_rfl) (fun _ _ _ h => h) (Or.inl ⟨by rfl, ?_⟩) (by assumption) ?_
          rotate_left
          · (intro w hSw; (try dsimp only at hSw); go_simp; (try with_reducible rfl))
          simp only [Act.put, List.setIfInBounds_toArray, List.set_cons_zero, List.set_cons_succ]
          refine wpAnyH_take (i := 14) (v := ?_) rfl (by kernel_rfl) (by kernel_rfl) (by kernel_rfl) (fun _ _ _ h => h) (Or.inl ⟨by rfl, ?_⟩) (by assumption) ?_
          rotate_left
          · (intro w hSw; (try dsimp only at hSw); go_simp; (try with_reducible rfl))
          simp only [Act.put, List.setIfInBounds_toArray, List.set_cons_zero, List.set_cons_succ]
          refine wpAnyH_take (i := 15) (v := ?_) rfl (by kernel_rfl) (by kernel_rfl) (by kernel_rfl) (fun _ _ _ h => h) (Or.inl ⟨by rfl, ?_⟩) (by assumption) ?_
          rotate_left
          · (intro w hSw; (try dsimp only at hSw); go_simp; (try with_reducible rfl))
          simp only [Act.put, List.setIfInBounds_toArray, List.set_cons_zero, List.set_cons_succ]
          refine wpAnyH_take (i := 16) (v := ?_) rfl (by kernel_rfl) (by kernel_rfl) (by kernel_rfl) (fun _ _ _ h => h) (Or.inl ⟨by rfl, ?_⟩) (by assumption) ?_
          rotate_left
          · (intro w hSw; (try dsimp only at hSw); go_simp; (try with_reducible rfl))
          simp only [Act.put, List.setIfInBounds_toArray, List.set_cons_zero, List.set_cons_succ]
          refine wpAnyH_take (i := 17) (v := ?_) rfl (by kernel_rfl) (by kernel_rfl) (by kernel_rfl) (fun _ _ _ h => h) (Or.inl ⟨by rfl, ?_⟩) (by assumption) ?_
          rotate_left
          · (intro w hSw; (try dsimp only at hSw); go_simp; (try with_reducible rfl))
          simp only [Act.put, List.setIfInBounds_toArray, List.set_cons_zero, List.set_cons_succ]
          refine wpAnyH_take (i := 18) (v := ?_) rfl (by kernel_rfl) (by kernel_rfl) (by kernel_rfl) (fun _ _ _ h => h) (Or.inl ⟨by rfl, ?_⟩) (by assumption) ?_
          rotate_left
          · (intro w hSw; (try dsimp only at hSw); go_simp; (try with_reducible rfl))
          simp only [Act.put, List.setIfInBounds_toArray, List.set_cons_zero, List.set_cons_succ]
          refine wpAnyH_take (i := 19) (v := ?_) rfl (by kernel_rfl) (by kernel_rfl) (by kernel_rfl) (fun _ _ _ h => h) (Or.inl ⟨by rfl, ?_⟩) (by assumption) ?_
          rotate_left
          · (intro w hSw; (try dsimp only at hSw); go_simp; (try with_reducible rfl))
          simp only [Act.put, List.setIfInBounds_toArray, List.set_cons_zero, List.set_cons_succ]
          refine wpAnyH_take (i := 20) (v := ?_) rfl (by kernel_rfl) (by kernel_rfl) (by kernel_rfl) (fun _ _ _ h => h) (Or.inl ⟨by rfl, ?_⟩) (by assumption) ?_
          rotate_left
          · (intro w hSw; (try dsimp only at hSw); go_simp; (try with_reducible rfl))
          simp only [Act.put, List.setIfInBounds_toArray, List.set_cons_zero, List.set_cons_succ]
          refine wpAnyH_take (i := 21) (v := ?_) rfl (by kernel_rfl) (by kernel_rfl) (by kernel_rfl) (fun _ _ _ h => h) (Or.inl ⟨by rfl, ?_⟩) (by assumption) ?_
          rotate_left
          · (intro w hSw; (try dsimp only at hSw); go_simp; (try with_reducible rfl))
          simp only [Act.put, List.setIfInBounds_toArray, List.set_cons_zero, List.set_cons_succ]
          refine wpAnyH_done (by kernel_rfl) ?_ _
          dsimp only [atEnd]
          clear hS
          go_wp2
          go_roundw
          case rel => exact ⟨y + 1, by omega, by go_num, HS.out⟩
          case measure => simp [intOf]; omega
        · obtain rfl : y = N1 := by omega
          have S := S.line
          go_wp2
          go_roundw
          case rel => exact ⟨x + 1, by omega, by go_num, S⟩
          case measure => simp [intOf]; omega
    · obtain rfl : x = N1 := by omega
      obtain ⟨⟨zss, ho, hF⟩, hb'⟩ := S
      have hb2 := hbx.trans (hb'.mono hbx.size)
      have ho2 : OR wr w.heap.size 22 2 G x cg zss := OR.more ⟨vs, ho⟩ hbx.size
      go_wp2
      go_ret
      exact ⟨_, _, _, rfl, ho2, hF, hb2⟩
def blkP (a b c : Int) : List Int := putG sgnI (putG sgnI [a] b) c
theorem blk_eq {a b c a' b' c' : Int} (h1 : a = a') (h2 : b = b') (h3 : c = c') : blkP a b c = blkP a' b' c' := by rw [h1, h2, h3]
set_option maxHeartbeats 800000 in
theorem l11Block_any (a b c : Int) (w : World) (ha : I64 a) (hb : I64 b) (hc : I64 c) :
    Calls Tryz.prog 219 #[.int .i64 a, .int .i64 b, .int .i64 c] w (RetI w 2 (blkP a b c)) := by
  have ho := OI.lit w w.heap.size 2 [a] (Nat.le_refl _) (by simp) (All64.one ha)
  have hb0 := below_alloc w (.cells (ints [a]).toArray 2)
  have h1 := l00Put_any _ 1 1 [a] b _ ho.reads (by omega) hb
  clear ho
  go_enter Tryz.func219, Tryz.ntmps219
  go_wp2_with fail
  refine h1.mono ?_
  rintro e w1 ⟨A1, n1, c1, rfl, ho1, hb1⟩
  have hl := ho1.len
  have hlen : n1 ≤ 2 := by
    rw [← hl]
    have := putG_len (c := sgnI) [a] b
    simpa using this
  have h2 := l00Put_any A1 n1 c1 _ c w1 ho1.reads (by omega) hc
  have hb2 := hb0.trans (hb1.mono hb0.size)
  clear h1 hb1 ho1 hl hlen
  go_wp2_with fail
  refine h2.mono ?_
  rintro e w2 ⟨A2, n2, c2, rfl, ho2, hb3⟩
  have ho3 := ho2.more hb2.size
  have hb4 := hb2.trans (hb3.mono hb2.size)
  clear h2 hb3 ho2
  go_wp2
  go_ret
  exact ⟨_, _, _, rfl, ho3, hb4⟩
def skoB (t x i : Nat) : List (List Int) := (List.range i).map fun i => blkP ((3 * (2 * t) : Nat) : Int) ((x + t + 2 * t * i : Nat) : Int) ((x + 2 * t * ((i + 1) % 3) : Nat) : Int)
def skoA (t x : Nat) : List (List Int) := (List.range x).flatMap fun (x : Nat) => blkP (x : Int) ((x + 2 * t : Nat) : Int) ((x + 2 * (2 * t) : Nat) : Int) :: skoB t x 3
def skoZ (t x y : Nat) : Nat := (x + y) % (2 * t) / 2 + if (x + y) % (2 * t) % 2 = 1 then t else 0
def skoD (t x y i : Nat) : List (List Int) := (List.range i).map fun i => blkP ((x + 2 * t * i : Nat) : Int) ((y + 2 * t * i : Nat) : Int) ((skoZ t x y + 2 * t * ((i + 1) % 3) : Nat) : Int)
def skoE (t x j : Nat) : List (List Int) := (List.range j).flatMap fun d => skoD t x (x + 1 + d) 3
def skoC (t x : Nat) : List (List Int) := (List.range x).flatMap fun x => skoE t x (2 * t - x - 1)
def skoP (t : Nat) : List (List Int) := skoA t t ++ skoC t (2 * t)
theorem skoB_step (t x i : Nat) : skoB t x (i + 1) = skoB t x i ++ [blkP ((3 * (2 * t) : Nat) : Int) ((x + t + 2 * t * i : Nat) : Int) ((x + 2 * t * ((i + 1) % 3) : Nat) : Int)] := by simp [skoB, List.range_succ]
theorem skoA_step (t x : Nat) : skoA t (x + 1) = skoA t x ++ [blkP (x : Int) ((x + 2 * t : Nat) : Int) ((x + 2 * (2 * t) : Nat) : Int)] ++ skoB t x 3 := by simp [skoA, List.range_succ, List.flatMap_append]
theorem skoD_step (t x y i : Nat) : skoD t x y (i + 1) = skoD t x y i ++ [blkP ((x + 2 * t * i : Nat) : Int) ((y + 2 * t * i : Nat) : Int) ((skoZ t x y + 2 * t * ((i + 1) % 3) : Nat) : Int)] := by simp [skoD, List.range_succ]
theorem skoE_step (t x j : Nat) : skoE t x (j + 1) = skoE t x j ++ skoD t x (x + 1 + j) 3 := by simp [skoE, List.range_succ, List.flatMap_append]
theorem skoC_step (t x : Nat) : skoC t (x + 1) = skoC t x ++ skoE t x (2 * t - x - 1) := by simp [skoC, List.range_succ, List.flatMap_append]
def Grw (w wr : World) (A : Option Addr) (k c : Nat) (zss : List (List Int)) : Prop := OR wr w.heap.size 22 2 A k c zss ∧ Below w.heap.size w wr
theorem Grw.start (w w1 : World) (hb : Below w.heap.size w w1) : Grw w (w1.alloc (.cells #[] 22)) (some ⟨w1.heap.size, 0, none⟩) 0 0 [] :=
  ⟨OR.of_own (OS.lit w1 w.heap.size 22 1 0 #[] hb.size rfl (by omega)) (by decide), hb.trans ((below_alloc _ _).mono hb.size)⟩
structure GrwR (w w2 : World) (A : Option Addr) (k c : Nat) (vs : List Sl) (zss : List (List Int)) (A2 : Option Addr) (n2 c2 : Nat) (r : List Int) : Prop where
  o : ORv w2 w.heap.size 22 2 A k c vs zss
  r : OI w2 w.heap.size 2 A2 n2 c2 r
  ap : ∀ (j : Nat) (u : Sl), vs[j]? = some u → apart u (A2, n2, c2)
  b : Below w.heap.size w w2
theorem Grw.row {w wr w2 : World} {A : Option Addr} {k c : Nat} {zss : List (List Int)} (h : Grw w wr A k c zss) {A2 : Option Addr} {n2 c2 : Nat} {r : List Int} (ho : OI w2 wr.heap.size 2 A2 n2 c2 r) (hb : Below wr.heap.size wr w2) : ∃ vs, GrwR w w2 A k c vs zss A2 n2 c2 r := by
  obtain ⟨⟨vs, hv⟩, hw⟩ := h
  exact ⟨vs, hv.below hb, ho.more hw.size, hv.apart_new (v := (A2, n2, c2)) (fun b hb => (ho.os.lt hb).1), hw.trans (hb.mono hw.size)⟩
theorem GrwR.done {w w2 w' : World} {A : Option Addr} {k c : Nat} {vs : List Sl} {zss : List (List Int)} {A2 : Option Addr} {n2 c2 : Nat} {r : List Int} (h : GrwR w w2 A k c vs zss A2 n2 c2 r) {A' : Option Addr} {k' c' : Nat} {vs' : List Sl} {zs' : List (List Int)} (ho : ORv w' w.heap.size 22 2 A' k' c' vs' zs') (hg : w2.grownBy w' (blk A)) : Grw w w' A' k' c' zs' :=
  ⟨⟨_, ho⟩, below_own h.b hg h.b.size (fun b hb => (h.o.os.lt hb).1)⟩
set_option maxRecDepth 100000 in
set_option maxHeartbeats 1000000 in
theorem l11Skolem_any (t : Nat) (w : World) (ht : t ≤ 5) :
    Calls Tryz.prog 180 #[.int .i64 t] w (RetR w 22 2 (skoP t)) := by
  have G0 := Grw.start w w (Below.refl _ _)
  obtain ⟨n, hn⟩ : ∃ n : Nat, n = 2 * t := ⟨_, rfl⟩
  have hnt : 2 * (t : Int) = (n : Int) := by omega
  have hn10 : n ≤ 10 := by omega
  have HN := Lib.hid hn
  clear hn
  go_enter Tryz.func180, Tryz.ntmps180
  go_wp2
  clear hnt
  go_loopw [4, 5] (fun ov xv wr => ∃ (x : Nat) (A : Option Addr) (k c : Nat), x ≤ t ∧ xv = .int .i64 x ∧ ov = .slice A k c ∧ Grw w wr A k c (skoA t x) ∧ k ≤ 4 * x) (fun _ xv _ => t - (intOf xv).toNat)
  case atStart => exact ⟨0, _, 0, 0, Nat.zero_le _, rfl, rfl, by simpa [skoA] using G0, by omega⟩
  case round =>
    clear G0
    obtain ⟨x, A, k, c, hx, rfl, rfl, G, hk⟩ := hrel
    by_cases hlt : x < t
    · go_wp2_with fail
      refine (l11Block_any _ _ _ _ ?_ ?_ ?_).mono ?_
      · unfold I64; omega
      · unfold I64; omega
      · unfold I64; omega
      rintro e w2 ⟨A2, n2, c2, rfl, ho2, hb2⟩
      rw [blk_eq (a' := ((x : Nat) : Int)) (b' := ((x + 2 * t : Nat) : Int)) (c' := ((x + 2 * (2 * t) : Nat) : Int)) (by have := HN.out; omega) (by have := HN.out; omega) (by have := HN.out; omega)] at ho2
      obtain ⟨vs, G⟩ := G.row ho2 hb2
      have hlw := G.b.size
      clear ho2 hb2
      go_wp2_with (at_builtin; refine app_row _ rfl (.tmp 20) (.tmp 30) rfl w.heap.size A k c vs _ rfl G.o (A2, n2, c2) _ G.r G.ap _ rfl (by simp) (Nat.le_trans (Nat.succ_le_succ hk) (by omega)) hlw ?_; intro A3 c3 w3 ho3 hg3 hf3)
      have G := G.done ho3 hg3
      clear ho3 hg3 hf3 hlw
      go_loopw [4, 6] (fun ov iv wr => ∃ (i : Nat) (A : Option Addr) (k c : Nat), i ≤ 3 ∧ iv = .int .i64 i ∧ ov = .slice A k c ∧ Grw w wr A k c (skoA t x ++ [blkP (x : Int) ((x + 2 * t : Nat) : Int) ((x + 2 * (2 * t) : Nat) : Int)] ++ skoB t x i) ∧ k ≤ 4 * x + 1 + i) (fun _ iv _ => 3 - (intOf iv).toNat)
      case atStart => exact ⟨0, A3, k + 1, c3, Nat.zero_le _, rfl, rfl, by simpa [skoB] using G, by omega⟩
      case round =>
        clear G hk
        obtain ⟨i, A, k, c, hi, rfl, rfl, G, hk⟩ := hrel
        by_cases hli : i < 3
        · have h3 : i = 0 ∨ i = 1 ∨ i = 2 := by omega
          clear hli
          rcases h3 with rfl | rfl | rfl
          · go_wp2_with fail
            refine (l11Block_any _ _ _ _ ?_ ?_ ?_).mono ?_
            · unfold I64; omega
            · unfold I64; omega
            · unfold I64; omega
            rintro e w2 ⟨A2, n2, c2, rfl, ho2, hb2⟩
            rw [blk_eq (a' := ((3 * (2 * t) : Nat) : Int)) (b' := ((x + t + 2 * t * 0 : Nat) : Int)) (c' := ((x + 2 * t * ((0 + 1) % 3) : Nat) : Int)) (by have := HN.out; omega) (by have := HN.out; omega) (by have := HN.out; omega)] at ho2
            obtain ⟨vs, G⟩ := G.row ho2 hb2
            have hlw := G.b.size
            clear ho2 hb2
            go_wp2_with (at_builtin; refine app_row _ rfl (.tmp 36) (.tmp 54) rfl w.heap.size A k c vs _ rfl G.o (A2, n2, c2) _ G.r G.ap _ rfl (by simp) (Nat.le_trans (Nat.succ_le_succ hk) (by omega)) hlw ?_; intro A3 c3 w3 ho3 hg3 hf3)
            have G := G.done ho3 hg3
            clear ho3 hg3 hf3 hlw
            rw [List.append_assoc, ← skoB_step] at G
            go_roundw
            case rel => exact ⟨1, A3, k + 1, c3, by omega, by go_num, rfl, G, by omega⟩
            case measure => simp [intOf]
          · go_wp2_with fail
            refine (l11Block_any _ _ _ _ ?_ ?_ ?_).mono ?_
            · unfold I64; omega
            · unfold I64; omega
            · unfold I64; omega
            rintro e w2 ⟨A2, n2, c2, rfl, ho2, hb2⟩
            rw [blk_eq (a' := ((3 * (2 * t) : Nat) : Int)) (b' := ((x + t + 2 * t * 1 : Nat) : Int)) (c' := ((x + 2 * t * ((1 + 1) % 3) : Nat) : Int)) (by have := HN.out; omega) (by have := HN.out; omega) (by have := HN.out; omega)] at ho2
            obtain ⟨vs, G⟩ := G.row ho2 hb2
            have hlw := G.b.size
            clear ho2 hb2
            go_wp2_with (at_builtin; refine app_row _ rfl (.tmp 36) (.tmp 54) rfl w.heap.size A k c vs _ rfl G.o (A2, n2, c2) _ G.r G.ap _ rfl (by simp) (Nat.le_trans (Nat.succ_le_succ hk) (by omega)) hlw ?_; intro A3 c3 w3 ho3 hg3 hf3)
            have G := G.done ho3 hg3
            clear ho3 hg3 hf3 hlw
            rw [List.append_assoc, ← skoB_step] at G
            go_roundw
            case rel => exact ⟨2, A3, k + 1, c3, by omega, by go_num, rfl, G, by omega⟩
            case measure => simp [intOf]
          · go_wp2_with fail
            refine (l11Block_any _ _ _ _ ?_ ?_ ?_).mono ?_
            · unfold I64; omega
            · unfold I64; omega
            · unfold I64; omega
            rintro e w2 ⟨A2, n2, c2, rfl, ho2, hb2⟩
            rw [blk_eq (a' := ((3 * (2 * t) : Nat) : Int)) (b' := ((x + t + 2 * t * 2 : Nat) : Int)) (c' := ((x + 2 * t * ((2 + 1) % 3) : Nat) : Int)) (by have := HN.out; omega) (by have := HN.out; omega) (by have := HN.out; omega)] at ho2
            obtain ⟨vs, G⟩ := G.row ho2 hb2
            have hlw := G.b.size
            clear ho2 hb2
            go_wp2_with (at_builtin; refine app_row _ rfl (.tmp 36) (.tmp 54) rfl w.heap.size A k c vs _ rfl G.o (A2, n2, c2) _ G.r G.ap _ rfl (by simp) (Nat.le_trans (Nat.succ_le_succ hk) (by omega)) hlw ?_; intro A3 c3 w3 ho3 hg3 hf3)
            have G := G.done ho3 hg3
            clear ho3 hg3 hf3 hlw
            rw [List.append_assoc, ← skoB_step] at G
            go_roundw
            case rel => exact ⟨3, A3, k + 1, c3, by omega, by go_num, rfl, G, by omega⟩
            case measure => simp [intOf]
        · obtain rfl : i = 3 := by omega
          rw [← skoA_step] at G
          go_wp2
          go_roundw
          case rel => exact ⟨x + 1, A, k, c, by omega, by go_num, rfl, G, by omega⟩
          case measure => simp [intOf]; omega
    · obtain rfl : x = t := by omega
      go_wp2
      go_loopw [4, 7] (fun ov xv wr => ∃ (a : Nat) (A : Option Addr) (k c : Nat), a ≤ n ∧ xv = .int .i64 a ∧ ov = .slice A k c ∧ Grw w wr A k c (skoA x x ++ skoC x a) ∧ k ≤ 20 + 30 * a) (fun _ xv _ => n - (intOf xv).toNat)
      case atStart => exact ⟨0, A, k, c, Nat.zero_le _, rfl, rfl, by simpa [skoC] using G, by omega⟩
      case round =>
        clear G hk
        obtain ⟨a, A, k, c, ha, rfl, rfl, G, hk⟩ := hrel
        by_cases hla : a < n
        · go_wp2
          go_loopw [4, 8] (fun ov yv wr => ∃ (j : Nat) (A : Option Addr) (k c : Nat), a + 1 + j ≤ n ∧ yv = .int .i64 ((a + 1 + j : Nat) : Int) ∧ ov = .slice A k c ∧ Grw w wr A k c (skoA x x ++ skoC x a ++ skoE x a j) ∧ k ≤ 20 + 30 * a + 3 * j) (fun _ yv _ => n - (intOf yv).toNat)
          case atStart => exact ⟨0, A, k, c, by omega, by go_num, rfl, by simpa [skoE] using G, by omega⟩
          case round =>
            clear G hk
            obtain ⟨j, A, k, c, hj, rfl, rfl, G, hk⟩ := hrel
            obtain ⟨y, hy⟩ : ∃ y, y = a + 1 + j := ⟨_, rfl⟩
            have HY := Lib.hid hy
            rw [← hy] at hj ⊢
            have hj9 : j ≤ 9 := by omega
            clear hy
            by_cases hly : y < n
            · have hn0 : ¬ n = 0 := by omega
              have q1 : ((a : Int) + (y : Int)).tmod (n : Int) = (((a + y) % n : Nat) : Int) := by rw [Int.tmod_eq_emod_of_nonneg (by omega), Int.natCast_emod, Int.natCast_add]
              have HS : Hid (skoZ x a y = (a + y) % n / 2 + if (a + y) % n % 2 = 1 then x else 0) := Lib.hid (by rw [HN.out]; rfl)
              have hsl : (a + y) % n < n := Nat.mod_lt _ (by omega)
              generalize (a + y) % n = s at *
              have q2 : (s : Int).tdiv 2 = ((s / 2 : Nat) : Int) := by rw [Int.tdiv_eq_ediv_of_nonneg (by omega)]; omega
              by_cases hs2 : s % 2 = 1
              · have q3 : (s : Int).tmod 2 = 1 := by rw [Int.tmod_eq_emod_of_nonneg (by omega)]; omega
                have HZ : Hid (skoZ x a y = s / 2 + x) := Lib.hid (by rw [HS.out, if_pos hs2])
                clear HS hs2
                go_wp2
                go_loopw [4, 11] (fun ov iv wr => ∃ (i : Nat) (A : Option Addr) (k c : Nat), i ≤ 3 ∧ iv = .int .i64 i ∧ ov = .slice A k c ∧ Grw w wr A k c (skoA x x ++ skoC x a ++ skoE x a j ++ skoD x a y i) ∧ k ≤ 20 + 30 * a + 3 * j + i) (fun _ iv _ => 3 - (intOf iv).toNat)
                case atStart => exact ⟨0, A, k, c, Nat.zero_le _, rfl, rfl, by simpa [skoD] using G, by omega⟩
                case round =>
                  clear G hk q1 q2 q3 hn0
                  obtain ⟨i, A, k, c, hi, rfl, rfl, G, hk⟩ := hrel
                  by_cases hli : i < 3
                  · have h3 : i = 0 ∨ i = 1 ∨ i = 2 := by omega
                    clear hli
                    rcases h3 with rfl | rfl | rfl
                    · go_wp2_with fail
                      refine (l11Block_any _ _ _ _ ?_ ?_ ?_).mono ?_
                      · unfold I64; omega
                      · unfold I64; omega
                      · unfold I64; omega
                      rintro e w2 ⟨A2, n2, c2, rfl, ho2, hb2⟩
                      rw [blk_eq (a' := ((a + 2 * x * 0 : Nat) : Int)) (b' := ((y + 2 * x * 0 : Nat) : Int)) (c' := ((skoZ x a y + 2 * x * ((0 + 1) % 3) : Nat) : Int)) (by have := HN.out; omega) (by have := HN.out; omega) (by have := HN.out; have := HZ.out; omega)] at ho2
                      obtain ⟨vs, G⟩ := G.row ho2 hb2
                      have hlw := G.b.size
                      clear ho2 hb2
                      go_wp2_with (at_builtin; refine app_row _ rfl (.tmp 85) (.tmp 104) rfl w.heap.size A k c vs _ rfl G.o (A2, n2, c2) _ G.r G.ap _ rfl (by simp) (Nat.le_trans (Nat.succ_le_succ hk) (by omega)) hlw ?_; intro A3 c3 w3 ho3 hg3 hf3)
                      have G := G.done ho3 hg3
                      clear ho3 hg3 hf3 hlw
                      rw [List.append_assoc, ← skoD_step] at G
                      go_roundw
                      case rel => exact ⟨1, A3, k + 1, c3, by omega, by go_num, rfl, G, by omega⟩
                      case measure => simp [intOf]
                    · go_wp2_with fail
                      refine (l11Block_any _ _ _ _ ?_ ?_ ?_).mono ?_
                      · unfold I64; omega
                      · unfold I64; omega
                      · unfold I64; omega
                      rintro e w2 ⟨A2, n2, c2, rfl, ho2, hb2⟩
                      rw [blk_eq (a' := ((a + 2 * x * 1 : Nat) : Int)) (b' := ((y + 2 * x * 1 : Nat) : Int)) (c' := ((skoZ x a y + 2 * x * ((1 + 1) % 3) : Nat) : Int)) (by have := HN.out; omega) (by have := HN.out; omega) (by have := HN.out; have := HZ.out; omega)] at ho2
                      obtain ⟨vs, G⟩ := G.row ho2 hb2
                      have hlw := G.b.size
                      clear ho2 hb2
                      go_wp2_with (at_builtin; refine app_row _ rfl (.tmp 85) (.tmp 104) rfl w.heap.size A k c vs _ rfl G.o (A2, n2, c2) _ G.r G.ap _ rfl (by simp) (Nat.le_trans (Nat.succ_le_succ hk) (by omega)) hlw ?_; intro A3 c3 w3 ho3 hg3 hf3)
                      have G := G.done ho3 hg3
                      clear ho3 hg3 hf3 hlw
                      rw [List.append_assoc, ← skoD_step] at G
                      go_roundw
                      case rel => exact ⟨2, A3, k + 1, c3, by omega, by go_num, rfl, G, by omega⟩
                      case measure => simp [intOf]
                    · go_wp2_with fail
                      refine (l11Block_any _ _ _ _ ?_ ?_ ?_).mono ?_
                      · unfold I64; omega
                      · unfold I64; omega
                      · unfold I64; omega
                      rintro e w2 ⟨A2, n2, c2, rfl, ho2, hb2⟩
                      rw [blk_eq (a' := ((a + 2 * x * 2 : Nat) : Int)) (b' := ((y + 2 * x * 2 : Nat) : Int)) (c' := ((skoZ x a y + 2 * x * ((2 + 1) % 3) : Nat) : Int)) (by have := HN.out; omega) (by have := HN.out; omega) (by have := HN.out; have := HZ.out; omega)] at ho2
                      obtain ⟨vs, G⟩ := G.row ho2 hb2
                      have hlw := G.b.size
                      clear ho2 hb2
                      go_wp2_with (at_builtin; refine app_row _ rfl (.tmp 85) (.tmp 104) rfl w.heap.size A k c vs _ rfl G.o (A2, n2, c2) _ G.r G.ap _ rfl (by simp) (Nat.le_trans (Nat.succ_le_succ hk) (by omega)) hlw ?_; intro A3 c3 w3 ho3 hg3 hf3)
                      have G := G.done ho3 hg3
                      clear ho3 hg3 hf3 hlw
                      rw [List.append_assoc, ← skoD_step] at G
                      go_roundw
                      case rel => exact ⟨3, A3, k + 1, c3, by omega, by go_num, rfl, G, by omega⟩
                      case measure => simp [intOf]
                  · obtain rfl : i = 3 := by omega
                    rw [HY.out, List.append_assoc, ← skoE_step] at G
                    go_wp2
                    go_roundw
                    case rel => exact ⟨j + 1, A, k, c, by have := HY.out; omega, by rw [HY.out]; go_num, rfl, G, by omega⟩
                    case measure => have := HY.out; simp [intOf]; omega
              · have q3 : (s : Int).tmod 2 = 0 := by rw [Int.tmod_eq_emod_of_nonneg (by omega)]; omega
                have HZ : Hid (skoZ x a y = s / 2) := Lib.hid (by rw [HS.out, if_neg hs2, Nat.add_zero])
                clear HS hs2
                go_wp2
                go_loopw [4, 11] (fun ov iv wr => ∃ (i : Nat) (A : Option Addr) (k c : Nat), i ≤ 3 ∧ iv = .int .i64 i ∧ ov = .slice A k c ∧ Grw w wr A k c (skoA x x ++ skoC x a ++ skoE x a j ++ skoD x a y i) ∧ k ≤ 20 + 30 * a + 3 * j + i) (fun _ iv _ => 3 - (intOf iv).toNat)
                case atStart => exact ⟨0, A, k, c, Nat.zero_le _, rfl, rfl, by simpa [skoD] using G, by omega⟩
                case round =>
                  clear G hk q1 q2 q3 hn0
                  obtain ⟨i, A, k, c, hi, rfl, rfl, G, hk⟩ := hrel
                  by_cases hli : i < 3
                  · have h3 : i = 0 ∨ i = 1 ∨ i = 2 := by omega
                    clear hli
                    rcases h3 with rfl | rfl | rfl
                    · go_wp2_with fail
                      refine (l11Block_any _ _ _ _ ?_ ?_ ?_).mono ?_
                      · unfold I64; omega
                      · unfold I64; omega
                      · unfold I64; omega
                      rintro e w2 ⟨A2, n2, c2, rfl, ho2, hb2⟩
                      rw [blk_eq (a' := ((a + 2 * x * 0 : Nat) : Int)) (b' := ((y + 2 * x * 0 : Nat) : Int)) (c' := ((skoZ x a y + 2 * x * ((0 + 1) % 3) : Nat) : Int)) (by have := HN.out; omega) (by have := HN.out; omega) (by have := HN.out; have := HZ.out; omega)] at ho2
                      obtain ⟨vs, G⟩ := G.row ho2 hb2
                      have hlw := G.b.size
                      clear ho2 hb2
                      go_wp2_with (at_builtin; refine app_row _ rfl (.tmp 85) (.tmp 104) rfl w.heap.size A k c vs _ rfl G.o (A2, n2, c2) _ G.r G.ap _ rfl (by simp) (Nat.le_trans (Nat.succ_le_succ hk) (by omega)) hlw ?_; intro A3 c3 w3 ho3 hg3 hf3)
                      have G := G.done ho3 hg3
                      clear ho3 hg3 hf3 hlw
                      rw [List.append_assoc, ← skoD_step] at G
                      go_roundw
                      case rel => exact ⟨1, A3, k + 1, c3, by omega, by go_num, rfl, G, by omega⟩
                      case measure => simp [intOf]
                    · go_wp2_with fail
                      refine (l11Block_any _ _ _ _ ?_ ?_ ?_).mono ?_
                      · unfold I64; omega
                      · unfold I64; omega
                      · unfold I64; omega
                      rintro e w2 ⟨A2, n2, c2, rfl, ho2, hb2⟩
                      rw [blk_eq (a' := ((a + 2 * x * 1 : Nat) : Int)) (b' := ((y + 2 * x * 1 : Nat) : Int)) (c' := ((skoZ x a y + 2 * x * ((1 + 1) % 3) : Nat) : Int)) (by have := HN.out; omega) (by have := HN.out; omega) (by have := HN.out; have := HZ.out; omega)] at ho2
                      obtain ⟨vs, G⟩ := G.row ho2 hb2
                      have hlw := G.b.size
                      clear ho2 hb2
                      go_wp2_with (at_builtin; refine app_row _ rfl (.tmp 85) (.tmp 104) rfl w.heap.size A k c vs _ rfl G.o (A2, n2, c2) _ G.r G.ap _ rfl (by simp) (Nat.le_trans (Nat.succ_le_succ hk) (by omega)) hlw ?_; intro A3 c3 w3 ho3 hg3 hf3)
                      have G := G.done ho3 hg3
                      clear ho3 hg3 hf3 hlw
                      rw [List.append_assoc, ← skoD_step] at G
                      go_roundw
                      case rel => exact ⟨2, A3, k + 1, c3, by omega, by go_num, rfl, G, by omega⟩
                      case measure => simp [intOf]
                    · go_wp2_with fail
                      refine (l11Block_any _ _ _ _ ?_ ?_ ?_).mono ?_
                      · unfold I64; omega
                      · unfold I64; omega
                      · unfold I64; omega
                      rintro e w2 ⟨A2, n2, c2, rfl, ho2, hb2⟩
                      rw [blk_eq (a' := ((a + 2 * x * 2 : Nat) : Int)) (b' := ((y + 2 * x * 2 : Nat) : Int)) (c' := ((skoZ x a y + 2 * x * ((2 + 1) % 3) : Nat) : Int)) (by have := HN.out; omega) (by have := HN.out; omega) (by have := HN.out; have := HZ.out; omega)] at ho2
                      obtain ⟨vs, G⟩ := G.row ho2 hb2
                      have hlw := G.b.size
                      clear ho2 hb2
                      go_wp2_with (at_builtin; refine app_row _ rfl (.tmp 85) (.tmp 104) rfl w.heap.size A k c vs _ rfl G.o (A2, n2, c2) _ G.r G.ap _ rfl (by simp) (Nat.le_trans (Nat.succ_le_succ hk) (by omega)) hlw ?_; intro A3 c3 w3 ho3 hg3 hf3)
                      have G := G.done ho3 hg3
                      clear ho3 hg3 hf3 hlw
                      rw [List.append_assoc, ← skoD_step] at G
                      go_roundw
                      case rel => exact ⟨3, A3, k + 1, c3, by omega, by go_num, rfl, G, by omega⟩
                      case measure => simp [intOf]
                  · obtain rfl : i = 3 := by omega
                    rw [HY.out, List.append_assoc, ← skoE_step] at G
                    go_wp2
                    go_roundw
                    case rel => exact ⟨j + 1, A, k, c, by have := HY.out; omega, by rw [HY.out]; go_num, rfl, G, by omega⟩
                    case measure => have := HY.out; simp [intOf]; omega
            · have hjn : j = 2 * x - a - 1 := by have := HN.out; have := HY.out; omega
              rw [hjn, List.append_assoc, ← skoC_step] at G
              clear hjn
              go_wp2
              go_roundw
              case rel => exact ⟨a + 1, A, k, c, by omega, by go_num, rfl, G, by omega⟩
              case measure => simp [intOf]; omega
        · have han : a = 2 * x := by have := HN.out; omega
          rw [han] at G
          obtain ⟨ho, hb⟩ := G
          clear han
          go_wp2
          go_ret
          exact ⟨_, _, _, rfl, ho, hb⟩
end Go.Proofs.YtdkbcjdimhgmnaaGreat
