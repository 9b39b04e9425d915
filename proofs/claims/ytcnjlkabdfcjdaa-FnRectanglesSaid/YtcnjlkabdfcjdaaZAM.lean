/- A square that a law draws, of an order from 1 to 10. No condition beyond those stated. -/
import Derived.Test.YtcnjlkabdfcjdaaZAL
import Derived.Deep.DeepCutAuto
import Derived.Deep.CutBlock
import Derived.Test.YtcnjlkabdfcjdaaZAB
import Derived.Test.YtcnjlkabdfcjdaaZAI
import Derived.Test.YtcnjlkabdfcjdaaZAK
import Derived.Test.YtcnjlkabdfcjdaaZAE
set_option linter.unusedVariables false
set_option linter.unusedSimpArgs false
namespace Go.Proofs.Ytcnjlkabdfcjdaa
open Go.RowKit

/-- a square in the slot, the source moved on -/
def CutS (w wx : World) (s : Value) (g p n : Nat) : Prop := ∃ A c zss q, s = .slice A n c ∧ OR wx w.heap.size 30 2 A n c zss ∧ zss.length = n ∧ Square zss ∧ SrW w wx g q ∧ q ≤ p
theorem sq_shape {a : List (List Int)} {n : Nat} (h : Square a) (hl : a.length = n) : (∀ i, i < n → (row a i).length = n) ∧ ∀ i j, i < n → j < n → 0 ≤ nth (row a i) j ∧ nth (row a i) j ≤ 1024 := by
  subst hl
  exact ⟨fun i hi => (h.2.2.1 i hi).1, fun i j hi hj => by have := sq_bnd h hi hj; have := h.2.1; omega⟩
/-- the product of two squares, and it is one: what a call leaves -/
theorem l06Product_sq (A : Option Addr) (n c : Nat) (a : List (List Int)) (B : Option Addr) (m d : Nat) (b : List (List Int)) (w : World) (ha : RR w A n a) (hb : RR w B m b) (h1 : Square a) (h2 : Square b) :
    Calls Try.prog 94 #[.slice A n c, .slice B m d] w (RetR w 30 2 (prodP a b)) := by
  have la := ha.len
  have lb := hb.len
  have s1 := sq_shape h1 la
  have s2 := sq_shape h2 lb
  exact l06Product_any A n c a B m d b w ha hb (by rw [← la]; exact h1.1) (by rw [← la]; have := h1.2.1; omega) (by rw [← lb]; exact h2.1) (by rw [← lb]; have := h2.2.1; omega) s1.1 s2.1 s1.2 s2.2
set_option maxRecDepth 100000 in
set_option maxHeartbeats 1000000 in
theorem l06DrawSquare_any (g p n : Nat) (w : World) (hs : Src w g p) (hp : p ≤ 140737488355328) (hn1 : 1 ≤ n) (hn : n ≤ 10) :
    Calls Try.prog 69 #[.pointer (some ⟨g, 0, none⟩), .int .i64 n] w (RetSq w g p n 120) := by
  have S0 := SrW.start hs
  go_enter Try.func69, Try.ntmps69
  go_wp2_with fail
  refine (l06Cyclic_any n w (by omega)).mono ?_
  rintro e w1 ⟨A, n', c, rfl, ho, hb⟩
  obtain rfl : n' = n := by rw [← ho.len, cycP_len]
  have S := S0.step hb
  have HQ := Lib.hid (cyc_square hn1 hn)
  have hcy := Lib.hid (fun (m : Nat) (wx : World) (h : m ≤ 10) => l06Cyclic_any m wx (by omega))
  clear S0 hs hb
  go_upto_block 0 with (fail)
  go_cut [5] (fun s5 wx => CutS w wx s5 g (p + 2) n')
  case first =>
    have hCut : CutS w w1 (.slice A n' c) g (p + 2) n' := ⟨A, c, _, p, rfl, ho, cycP_len _, HQ.out, S, by omega⟩
    by_cases h4 : n' = 4
    · subst h4
      go_wp2_with fail
      refine (one_any g p 2 _ S.src (by omega) (by omega) (by omega)).mono ?_
      rintro e w2 ⟨b, q, rfl, hq, hs2, hg2⟩
      have S2 := S.next hs2 hg2
      have ho2 := ho.keptB hg2 S.gl
      cases b with
      | false =>
        go_wp2
        go_meet
        case rel => exact ⟨A, c, _, q, rfl, ho2, cycP_len _, HQ.out, S2, by omega⟩
      | true =>
        go_wp2_with fail
        refine (hcy.out 2 _ (by omega)).mono ?_
        rintro e w3 ⟨A1, m1, c1, rfl, o1, b1⟩
        obtain rfl : m1 = 2 := by rw [← o1.len, cycP_len]
        go_wp2_with fail
        refine (hcy.out 2 _ (by omega)).mono ?_
        rintro e w4 ⟨A2, m2, c2, rfl, o2, b2⟩
        obtain rfl : m2 = 2 := by rw [← o2.len, cycP_len]
        go_wp2_with fail
        refine (l06Product_sq A1 2 c1 _ A2 2 c2 _ _ (o1.reads.keep b2) o2.reads (cyc_square (by omega) (by omega)) (cyc_square (by omega) (by omega))).mono ?_
        rintro e w5 ⟨A3, m3, c3, rfl, o3, b3⟩
        obtain rfl : m3 = 4 := by rw [← o3.len]; decide +kernel
        go_wp2
        go_meet
        case rel => exact ⟨A3, c3, _, q, rfl, o3.more (by have := S2.size; have := b1.size; have := b2.size; omega), by decide +kernel, prod_22, ((S2.step b1).step b2).step b3, by omega⟩
    by_cases h6 : n' = 6
    · subst h6
      go_wp2_with fail
      refine (one_any g p 2 _ S.src (by omega) (by omega) (by omega)).mono ?_
      rintro e w2 ⟨b, q, rfl, hq, hs2, hg2⟩
      have S2 := S.next hs2 hg2
      have ho2 := ho.keptB hg2 S.gl
      cases b with
      | false =>
        go_wp2
        go_meet
        case rel => exact ⟨A, c, _, q, rfl, ho2, cycP_len _, HQ.out, S2, by omega⟩
      | true =>
        go_wp2_with fail
        refine (hcy.out 3 _ (by omega)).mono ?_
        rintro e w3 ⟨A1, m1, c1, rfl, o1, b1⟩
        obtain rfl : m1 = 3 := by rw [← o1.len, cycP_len]
        go_wp2_with fail
        refine (hcy.out 2 _ (by omega)).mono ?_
        rintro e w4 ⟨A2, m2, c2, rfl, o2, b2⟩
        obtain rfl : m2 = 2 := by rw [← o2.len, cycP_len]
        go_wp2_with fail
        refine (l06Product_sq A1 3 c1 _ A2 2 c2 _ _ (o1.reads.keep b2) o2.reads (cyc_square (by omega) (by omega)) (cyc_square (by omega) (by omega))).mono ?_
        rintro e w5 ⟨A3, m3, c3, rfl, o3, b3⟩
        obtain rfl : m3 = 6 := by rw [← o3.len]; decide +kernel
        go_wp2
        go_meet
        case rel => exact ⟨A3, c3, _, q, rfl, o3.more (by have := S2.size; have := b1.size; have := b2.size; omega), by decide +kernel, prod_32, ((S2.step b1).step b2).step b3, by omega⟩
    by_cases h8 : n' = 8
    · subst h8
      go_wp2_with fail
      refine (one_any g p 2 _ S.src (by omega) (by omega) (by omega)).mono ?_
      rintro e w2 ⟨b, q, rfl, hq, hs2, hg2⟩
      have S2 := S.next hs2 hg2
      have ho2 := ho.keptB hg2 S.gl
      cases b with
      | false =>
        go_wp2
        go_meet
        case rel => exact ⟨A, c, _, q, rfl, ho2, cycP_len _, HQ.out, S2, by omega⟩
      | true =>
        go_wp2_with fail
        refine (hcy.out 2 _ (by omega)).mono ?_
        rintro e w3 ⟨A1, m1, c1, rfl, o1, b1⟩
        obtain rfl : m1 = 2 := by rw [← o1.len, cycP_len]
        go_wp2_with fail
        refine (hcy.out 2 _ (by omega)).mono ?_
        rintro e w4 ⟨A2, m2, c2, rfl, o2, b2⟩
        obtain rfl : m2 = 2 := by rw [← o2.len, cycP_len]
        go_wp2_with fail
        refine (l06Product_sq A1 2 c1 _ A2 2 c2 _ _ (o1.reads.keep b2) o2.reads (cyc_square (by omega) (by omega)) (cyc_square (by omega) (by omega))).mono ?_
        rintro e w5 ⟨A3, m3, c3, rfl, o3, b3⟩
        obtain rfl : m3 = 4 := by rw [← o3.len]; decide +kernel
        go_wp2_with fail
        refine (hcy.out 2 _ (by omega)).mono ?_
        rintro e w6 ⟨A4, m4, c4, rfl, o4, b4⟩
        obtain rfl : m4 = 2 := by rw [← o4.len, cycP_len]
        go_wp2_with fail
        refine (l06Product_sq A3 4 c3 _ A4 2 c4 _ _ (o3.reads.keep b4) o4.reads prod_22 (cyc_square (by omega) (by omega))).mono ?_
        rintro e w7 ⟨A5, m5, c5, rfl, o5, b5⟩
        obtain rfl : m5 = 8 := by rw [← o5.len]; decide +kernel
        go_wp2
        go_meet
        case rel => exact ⟨A5, c5, _, q, rfl, o5.more (by have := S2.size; have := b1.size; have := b2.size; have := b3.size; have := b4.size; omega), by decide +kernel, prod_222, ((((S2.step b1).step b2).step b3).step b4).step b5, by omega⟩
    by_cases h9 : n' = 9
    · subst h9
      go_wp2_with fail
      refine (one_any g p 2 _ S.src (by omega) (by omega) (by omega)).mono ?_
      rintro e w2 ⟨b, q, rfl, hq, hs2, hg2⟩
      have S2 := S.next hs2 hg2
      have ho2 := ho.keptB hg2 S.gl
      cases b with
      | false =>
        go_wp2
        go_meet
        case rel => exact ⟨A, c, _, q, rfl, ho2, cycP_len _, HQ.out, S2, by omega⟩
      | true =>
        go_wp2_with fail
        refine (hcy.out 3 _ (by omega)).mono ?_
        rintro e w3 ⟨A1, m1, c1, rfl, o1, b1⟩
        obtain rfl : m1 = 3 := by rw [← o1.len, cycP_len]
        go_wp2_with fail
        refine (hcy.out 3 _ (by omega)).mono ?_
        rintro e w4 ⟨A2, m2, c2, rfl, o2, b2⟩
        obtain rfl : m2 = 3 := by rw [← o2.len, cycP_len]
        go_wp2_with fail
        refine (l06Product_sq A1 3 c1 _ A2 3 c2 _ _ (o1.reads.keep b2) o2.reads (cyc_square (by omega) (by omega)) (cyc_square (by omega) (by omega))).mono ?_
        rintro e w5 ⟨A3, m3, c3, rfl, o3, b3⟩
        obtain rfl : m3 = 9 := by rw [← o3.len]; decide +kernel
        go_wp2
        go_meet
        case rel => exact ⟨A3, c3, _, q, rfl, o3.more (by have := S2.size; have := b1.size; have := b2.size; omega), by decide +kernel, prod_33, ((S2.step b1).step b2).step b3, by omega⟩
    · have e4 : ((n' : Int) == 4) = false := by simp; omega
      have e6 : ((n' : Int) == 6) = false := by simp; omega
      have e8 : ((n' : Int) == 8) = false := by simp; omega
      have e9 : ((n' : Int) == 9) = false := by simp; omega
      clear h4 h6 h8 h9
      go_wp2
      go_meet
      case rel => exact hCut
  case rest =>
    clear S ho HQ hcy
    obtain ⟨A1, c1, zss, q, rfl, ho, hl, hS, S, hq⟩ := hcut
    go_wp2_with fail
    refine (pick_any g q 4 _ S.src (by omega) (by omega) (by omega)).mono ?_
    rintro e w2 ⟨k, q2, rfl, k0, k1, hq2, hs2, hg2⟩
    have ho := ho.keptB hg2 S.gl
    have S := S.next hs2 hg2
    clear hs2 hg2
    go_wp2
    go_loopw [5, 6] (fun av kv wr => ∃ (k : Nat) (A : Option Addr) (c q : Nat) (zss : List (List Int)), kv = .int .i64 k ∧ k ≤ 3 ∧ av = .slice A n' c ∧ OR wr w.heap.size 30 2 A n' c zss ∧ zss.length = n' ∧ Square zss ∧ SrW w wr g q ∧ q + 6 * k ≤ p + 30) (fun _ kv _ => (intOf kv).toNat)
    case atStart =>
      obtain ⟨k, rfl⟩ := Int.eq_ofNat_of_zero_le k0
      exact ⟨k, A1, c1, q2, zss, rfl, by omega, rfl, ho, hl, hS, S, by omega⟩
    case round =>
      clear ho hl hS S hq2 hq k0 k1
      obtain ⟨k, A, c, q, zss, rfl, hk, rfl, ho, hl, hS, S, hq⟩ := hrel
      by_cases hk0 : 0 < k
      · go_wp2_with fail
        have hgl := S.gl
        refine (l06Switch_any g q n' A c w.heap.size zss wr S.src (by omega) hgl ho hS).mono ?_
        rintro e w3 ⟨A3, c3, zs3, q3, rfl, ho3, hl3, hS3, S3, hq3⟩
        have hsz := S.size
        have S4 := S.then_ S3
        have ho4 := ho3.more hsz
        clear ho hl hS S ho3 S3 hsz
        go_wp2
        go_roundw
        case rel => exact ⟨k - 1, A3, c3, q3, zs3, by go_num, by omega, rfl, ho4, hl3, hS3, S4, by omega⟩
        case measure => simp [intOf]; omega
      · obtain rfl : k = 0 := by omega
        go_wp2_with fail
        have hgl := S.gl
        refine (l04DrawPerm_any g q n' _ S.src (by omega) (by omega)).mono ?_
        rintro e w3 ⟨R, rc, r, q3, rfl, hor, hlr, hpr, S3, hq3⟩
        have hsz := S.size
        have ho := ho.keptB S3.grown hgl
        have hor := hor.more hsz
        have S := S.then_ S3
        clear S3 hsz
        go_wp2_with fail
        refine (l04DrawPerm_any g q3 n' _ S.src (by omega) (by omega)).mono ?_
        rintro e w4 ⟨K, kc, kk, q4, rfl, hok, hlk, hpk, S4, hq4⟩
        have hsz := S.size
        have ho := ho.keptB S4.grown hgl
        have hor := hor.keptB S4.grown hgl
        have hok := hok.more hsz
        have S := S.then_ S4
        clear S4 hsz
        go_wp2_with fail
        refine (l04DrawPerm_any g q4 n' _ S.src (by omega) (by omega)).mono ?_
        rintro e w5 ⟨Z, zc, z, q5, rfl, hoz, hlz, hpz, S5, hq5⟩
        have hsz := S.size
        have ho := ho.keptB S5.grown hgl
        have hor := hor.keptB S5.grown hgl
        have hok := hok.keptB S5.grown hgl
        have hoz := hoz.more hsz
        have S := S.then_ S5
        clear S5 hsz
        go_wp2_with fail
        refine (one_any g q5 5 _ S.src (by omega) (by omega) (by omega)).mono ?_
        rintro e w6 ⟨b, q6, rfl, hq6, hs6, hg6⟩
        have ho := ho.keptB hg6 hgl
        have hor := hor.keptB hg6 hgl
        have hok := hok.keptB hg6 hgl
        have hoz := hoz.keptB hg6 hgl
        have S := S.next hs6 hg6
        clear hs6 hg6
        cases b with
        | true =>
          go_wp2
          go_ret
          exact ⟨_, _, _, _, rfl, ho, hl, hS, S, by omega⟩
        | false =>
          have hsz := S.size
          go_wp2_with fail
          refine (l06Isotope_any A n' c zss R rc r K kc kk Z zc z _ ho.reads hor.reads hok.reads hoz.reads hS hpr hpk hpz).mono ?_
          rintro e w7 ⟨A7, c7, b7, rfl, ho7, hF7, hb7⟩
          have hS7 := isotope_square hS hl hpr hlr hpk hlk hpz hlz hF7
          have S7 := S.step hb7
          have ho7 := ho7.more hsz
          have hl7 := hF7.len
          clear ho hor hok hoz S hF7
          go_wp2
          go_ret
          exact ⟨_, _, _, _, rfl, ho7, hl7, hS7, S7, by omega⟩
end Go.Proofs.Ytcnjlkabdfcjdaa
/- Rows of a call's own, one by one, their headers in a row of its own; two headers may be of one row. No condition beyond those stated. -/
namespace Go.Proofs.Ytcnjlkabdfcjdaa
open Go.RowKit

/-- rows of a call's own, one by one, their headers in a row of its own -/
structure OB (w : World) (B : Nat) (A : Option Addr) (n c : Nat) (vs : List Sl) (zss : List (List Int)) : Prop where
  os : OS w B 30 1 A n c (vs.map slv)
  len : vs.length = zss.length
  rows : ∀ (j : Nat) (v : Sl) (z : List Int), vs[j]? = some v → zss[j]? = some z → OI w B 2 v.1 v.2.1 v.2.2 z
section
variable {w w' : World} {B : Nat} {A : Option Addr} {n c : Nat} {vs : List Sl} {zss : List (List Int)}
theorem OB.slen (h : OB w B A n c vs zss) : vs.length = n ∧ zss.length = n := by have := h.os.len; have := h.len; simp at *; omega
theorem OB.below (h : OB w B A n c vs zss) (hb : Below w.heap.size w w') : OB w' B A n c vs zss := ⟨h.os.below hb, h.len, fun j v z hv hz => (h.rows j v z hv hz).below hb⟩
theorem OB.setLow (h : OB w B A n c vs zss) {p : Addr} (hp : p.block < B) (u : Value) : OB (w.setCell p u) B A n c vs zss := ⟨h.os.setLow hp u, h.len, fun j v z hv hz => (h.rows j v z hv hz).setLow hp u⟩
theorem OB.more {B' : Nat} (h : OB w B A n c vs zss) (hB : B' ≤ B) : OB w B' A n c vs zss := ⟨h.os.more hB, h.len, fun j v z hv hz => (h.rows j v z hv hz).more hB⟩
theorem OB.reads (h : OB w B A n c vs zss) : RR w A n zss := by
  refine ⟨h.slen.2, fun j z hz => ?_⟩
  have hj : j < vs.length := by rw [h.len]; exact (List.getElem?_eq_some_iff.1 hz).1
  have hv := List.getElem?_eq_getElem hj
  obtain ⟨ad, ha, hc⟩ := h.os.cells j (slv vs[j]) (by rw [List.getElem?_map, hv]; rfl)
  have ho := h.rows j _ z hv hz
  exact ⟨ad, _, ha, hc, _, _, _, rfl, ho.os.cap.1, ho.os.cap.2, ho.reads⟩
end
end Go.Proofs.Ytcnjlkabdfcjdaa
/- Rows of a call's own: one by one, the first of them. No condition beyond those stated. -/
namespace Go.Proofs.Ytcnjlkabdfcjdaa
open Go.RowKit

theorem RR.upto {w : World} {A : Option Addr} {n : Nat} {zss : List (List Int)} (h : RR w A n zss) {k : Nat} (hk : k ≤ n) : RR w A k (zss.take k) := by
  refine ⟨by rw [List.length_take, h.len]; omega, fun j z hz => ?_⟩
  rw [List.getElem?_take] at hz
  split at hz
  · exact h.2 j z hz
  · cases hz
theorem OB.of_or {w : World} {B : Nat} {A : Option Addr} {n c : Nat} {zss : List (List Int)} (h : OR w B 30 2 A n c zss) : ∃ vs, OB w B A n c vs zss := by
  obtain ⟨vs, h⟩ := h
  exact ⟨vs, h.os, h.len, h.rows⟩
theorem OB.get {w : World} {B : Nat} {A : Option Addr} {n c : Nat} {vs : List Sl} {zss : List (List Int)} (h : OB w B A n c vs zss) {j : Nat} (hj : j < n) : ∃ g v, A = some ⟨g, 0, none⟩ ∧ vs[j]? = some v ∧ w.cell? ⟨g, j, none⟩ = some (.slice v.1 v.2.1 v.2.2) ∧ w.frozen? ⟨g, j, none⟩ = false ∧ OI w B 2 v.1 v.2.1 v.2.2 (row zss j) := by
  obtain ⟨l1, l2⟩ := h.slen
  have hv : vs[j]? = some vs[j] := List.getElem?_eq_getElem (by omega)
  have hz : zss[j]? = some zss[j] := List.getElem?_eq_getElem (by omega)
  obtain ⟨g, rfl, hc, hf⟩ := h.os.cell (j := j) (u := slv vs[j]) (by rw [List.getElem?_map, hv]; rfl)
  refine ⟨g, vs[j], rfl, hv, hc, hf, ?_⟩
  rw [row_get (by omega)]
  exact h.rows j _ _ hv hz
/-- a row is another one -/
theorem OB.setRow {w : World} {B g n c : Nat} {vs : List Sl} {zss : List (List Int)} (h : OB w B (some ⟨g, 0, none⟩) n c vs zss) (j : Nat) {v : Sl} {z : List Int} (ho : OI w B 2 v.1 v.2.1 v.2.2 z) :
    OB (w.setCell ⟨g, j, none⟩ (.slice v.1 v.2.1 v.2.2)) B (some ⟨g, 0, none⟩) n c (vs.set j v) (zss.set j z) := by
  have far : ∀ {A2 : Option Addr} {n2 c2 : Nat} {y : List Int}, OI w B 2 A2 n2 c2 y → OI (w.setCell ⟨g, j, none⟩ (.slice v.1 v.2.1 v.2.2)) B 2 A2 n2 c2 y := fun k => k.kept grown_set (OS.typed k.os h.os (by decide))
  refine ⟨?_, by rw [List.length_set, List.length_set, h.len], fun i u y hu hy => ?_⟩
  · rw [List.map_set]
    exact h.os.set j (slv v)
  · rw [List.getElem?_set] at hu hy
    by_cases e : j = i
    · subst e
      rw [if_pos rfl] at hu hy
      split at hu
      · injection hu with hu
        subst hu
        split at hy
        · injection hy with hy
          subst hy
          exact far ho
        · cases hy
      · cases hu
    · rw [if_neg e] at hu hy
      exact far (h.rows i u y hu hy)
theorem OB.grownO {w : World} {B g n c : Nat} {vs : List Sl} {zss : List (List Int)} (h : OB w B (some ⟨g, 0, none⟩) n c vs zss) : B ≤ g ∧ g < w.heap.size := h.os.lt rfl
/-- the first rows of rows that a call made -/
def RRo (w : World) (B : Nat) (A : Option Addr) (n c : Nat) (zss : List (List Int)) : Prop := ∃ (m : Nat) (vs : List Sl) (L : List (List Int)), OB w B A m c vs L ∧ n ≤ m ∧ zss = L.take n
section
variable {w w' : World} {B B' : Nat} {A : Option Addr} {n c : Nat} {zss : List (List Int)}
theorem RRo.reads (h : RRo w B A n c zss) : RR w A n zss := by
  obtain ⟨m, vs, L, h1, h2, rfl⟩ := h
  exact h1.reads.upto h2
theorem RRo.below (h : RRo w B A n c zss) (hb : Below w.heap.size w w') : RRo w' B A n c zss := by
  obtain ⟨m, vs, L, h1, h2, rfl⟩ := h
  exact ⟨m, vs, L, h1.below hb, h2, rfl⟩
theorem RRo.setLow (h : RRo w B A n c zss) {p : Addr} (hp : p.block < B) (u : Value) : RRo (w.setCell p u) B A n c zss := by
  obtain ⟨m, vs, L, h1, h2, rfl⟩ := h
  exact ⟨m, vs, L, h1.setLow hp u, h2, rfl⟩
theorem RRo.more (h : RRo w B A n c zss) (hB : B' ≤ B) : RRo w B' A n c zss := by
  obtain ⟨m, vs, L, h1, h2, rfl⟩ := h
  exact ⟨m, vs, L, h1.more hB, h2, rfl⟩
theorem RRo.cap (h : RRo w B A n c zss) : n ≤ c ∧ c ≤ 9223372036854775807 := by
  obtain ⟨m, vs, L, h1, h2, rfl⟩ := h
  have := h1.os.cap
  omega
theorem RRo.of_OB {vs : List Sl} (h : OB w B A n c vs zss) : RRo w B A n c zss := ⟨n, vs, zss, h, Nat.le_refl _, by rw [List.take_of_length_le]; rw [h.slen.2]; exact Nat.le_refl _⟩
end
theorem OB.keptB {w w' : World} {B g : Nat} {A : Option Addr} {n c : Nat} {vs : List Sl} {zss : List (List Int)} (h : OB w B A n c vs zss) (hg : w.grownBy w' (some g)) (hb : g < B) : OB w' B A n c vs zss := by
  have far : ∀ {e : TypeId} {size : Nat} {A : Option Addr} {n c : Nat} {xs : List Value}, OS w B e size A n c xs → blk A = none ∨ blk A ≠ some g := fun {e size A n c xs} ho => by
    cases A with
    | none => exact .inl rfl
    | some a => exact .inr fun e => by have := (ho.lt (k := a.block) rfl).1; simp only [blk, Option.map_some, Option.some.injEq] at e; omega
  exact ⟨h.os.kept hg (far h.os), h.len, fun j v z hv hz => (h.rows j v z hv hz).keptB hg hb⟩
theorem RRo.keptB {w w' : World} {B g : Nat} {A : Option Addr} {n c : Nat} {zss : List (List Int)} (h : RRo w B A n c zss) (hg : w.grownBy w' (some g)) (hb : g < B) : RRo w' B A n c zss := by
  obtain ⟨m, vs, L, h1, h2, rfl⟩ := h
  exact ⟨m, vs, L, h1.keptB hg hb, h2, rfl⟩
end Go.Proofs.Ytcnjlkabdfcjdaa
