/- Pairs of points in blocks, and how often a point is in blocks: the program's side. No condition beyond those stated. -/
import Derived.Test.YtnmcmologlgccaaGreatZBF
import Derived.Test.YtnmcmologlgccaaGreatZAZ
import Derived.Test.YtnmcmologlgccaaGreatZAX
import Derived.Deep.DeepCutAuto
import Derived.Test.YtnmcmologlgccaaGreatZAA
import Derived.ProofKit
import Derived.OpenShut
import Derived.Lib.SmallJoins
import Derived.Deep.Matrix
set_option linter.unusedVariables false
set_option linter.unusedSimpArgs false
namespace Go.Proofs.YtnmcmologlgccaaGreat
open Go.RowKit

theorem nth_drop' {z : List Int} {k j : Nat} : nth (z.drop k) j = nth z (k + j) := by simp [nth, List.getD, List.getElem?_drop]
theorem RI.drop1 {w : World} {ad : Addr} {n : Nat} {zs : List Int} (h : RI w (some ad) n zs) {k : Nat} (hk : k ≤ n) : RI w (some (ad.add k)) (n - k) (zs.drop k) := by
  refine ⟨by rw [List.length_drop, h.len], fun j z hz => ?_⟩
  rw [List.getElem?_drop] at hz
  obtain ⟨ad', v, ha, hc, r⟩ := RS.at_ h (k + j) z hz
  cases ha
  refine ⟨ad.add k, v, rfl, ?_, r⟩
  have : (ad.add k).add j = ad.add (k + j) := by
    unfold Addr.add
    by_cases hk : k = 0
    · subst hk; simp
    · by_cases hj : j = 0
      · subst hj; simp
      · simp [hk, hj, Nat.add_assoc]
  rw [this]; exact hc
theorem add_lit2 (za : Addr) (i j : Nat) : (za.add (i + 1)).add j = ⟨za.block, za.off + (i + 1) + j, none⟩ := by
  unfold Addr.add
  by_cases hj : j = 0
  · subst hj; simp
  · simp [hj]
/-- the table while it is counted -/
structure TStP (w wr : World) (v : Nat) (T : Option Addr) (tc : Nat) (vs : List Sl) (L : List (Int × Int)) : Prop where
  o : ∃ zss, ORv wr w.heap.size 36 2 T v tc vs zss ∧ TIs v zss L
  b : Below w.heap.size w wr
theorem TStP.put {w wr : World} {v : Nat} {T : Option Addr} {tc : Nat} {vs : List Sl} {L : List (Int × Int)} (h : TStP w wr v T tc vs L) {x y : Nat} (hx : x < v) (hy : y < v) (hL : L.length ≤ 1000000) :
    ∃ g r k u, T = some ⟨g, 0, none⟩ ∧ wr.cell? ⟨g, x, none⟩ = some (.slice (some ⟨r, 0, none⟩) v k) ∧ v ≤ k ∧ k ≤ 9223372036854775807 ∧ wr.cell? ⟨r, y, none⟩ = some (.int .i64 u) ∧ 0 ≤ u ∧ u ≤ 1000000 ∧ wr.frozen? ⟨r, y, none⟩ = false ∧ w.heap.size ≤ r ∧
      TStP w (wr.setCell ⟨r, y, none⟩ (.int .i64 (u + 1))) v T tc vs (L ++ [((x : Int), (y : Int))]) := by
  obtain ⟨⟨zss, ho, hT⟩, hb⟩ := h
  obtain ⟨g, r, m, k, h2⟩ := ho.at2 (i := x) (j := y) hx (by rw [hT.rows _ hx]; exact hy)
  have hm : m = v := by rw [← h2.hm, hT.rows _ hx]
  subst hm
  have hcb : 0 ≤ nth (row zss x) y ∧ nth (row zss x) y ≤ 1000000 := by
    rw [hT.at_ _ _ hx hy]
    have := List.count_le_length (a := ((x : Int), (y : Int))) (l := L)
    omega
  exact ⟨g, r, k, _, h2.ha, h2.co, h2.mle, h2.k1, h2.ci, hcb.1, hcb.2, h2.fi, h2.br, ⟨_, h2.set _ ⟨by omega, by omega⟩, hT.step hx hy⟩, Below.setCell hb (p := ⟨r, y, none⟩) h2.br _⟩
theorem prsU_len {r : List Int} {m : Nat} (h : r.length ≤ m) : ∀ i, (prsU r i).length ≤ i * m := by
  intro i
  induction i with
  | zero => simp [prsU]
  | succ i ih => rw [prsU_step, List.length_append, List.length_map, List.length_drop, Nat.succ_mul]; omega
theorem prsF_len {bs : List (List Int)} (h : ∀ i, i < bs.length → (row bs i).length ≤ 32) : ∀ q, q ≤ bs.length → (prsF (bs.take q)).length ≤ q * 1024 := by
  intro q
  induction q with
  | zero => intro _; simp [prsF]
  | succ q ih =>
    intro hq
    have h1 := ih (by omega)
    have h2 := h q (by omega)
    have h3 := prsU_len h2 (row bs q).length
    have h4 : (row bs q).length * 32 ≤ 32 * 32 := Nat.mul_le_mul_right 32 h2
    rw [prsF_take (by omega), List.length_append, Nat.succ_mul]
    omega
set_option maxRecDepth 100000 in
set_option maxHeartbeats 8000000 in
theorem pairCounts_any (v : Nat) (A : Option Addr) (n c : Nat) (bs : List (List Int)) (w : World) (ha : RR w A n bs) (hD : Design (v : Int) bs) :
    Calls Tryz.prog 46 #[.agg #[.int .i64 (v : Int), .slice A n c]] w (RetI w 2 (prP v bs v)) := by
  have hla := Lib.hid ha.len
  have hv : v ≤ 32 := by have := hD.v2; omega
  have hn : n ≤ 128 := by rw [← hla.out]; exact hD.len
  have HD := Lib.hid hD
  clear hD
  have X := Blk.new w 28 #[.int .i64 (v : Int), .slice A n c]
  have hbx := below_alloc w (.cells #[.int .i64 (v : Int), .slice A n c] 28)
  obtain ⟨x0, x1⟩ := X.cells2
  go_enter Tryz.func46, Tryz.ntmps46
  go_wp2_with fail
  refine (emptySquare_any v _ (by omega)).mono ?_
  rintro e w1 ⟨T, v1, tc, rfl, ⟨vs, ho⟩, hb1⟩
  obtain rfl : v1 = v := by rw [← ho.slen]; simp [zersP]
  have hbx1 := hbx.trans (hb1.mono hbx.size)
  have X := X.after hb1
  have S : TStP (w.alloc (.cells #[.int .i64 (v1 : Int), .slice A n c] 28)) w1 v1 T tc vs (prsF (bs.take 0)) := by
    refine ⟨⟨_, ho, by simp [zersP], fun x hx => ?_, fun x y hx hy => ?_⟩, hb1⟩
    · rw [row_get (by simp [zersP]; exact hx)]; simp [zersP]
    · rw [row_get (by simp [zersP]; exact hx)]; simp [zersP, prsF, nth, List.getD, hy]
  have hr := ha.keep hbx
  have hlow : w.heap.size + 1 = (w.alloc (.cells #[.int .i64 (v1 : Int), .slice A n c] 28)).heap.size := by simp
  obtain ⟨x0, x1⟩ := X.cells2
  clear ho hb1 ha hlow
  generalize hW0 : w.alloc (.cells #[.int .i64 (v1 : Int), .slice A n c] 28) = W0 at *
  go_wp2
  clear x0 x1
  go_loopw [19] (fun qv wr => ∃ q : Nat, q ≤ n ∧ qv = .int .i64 q ∧ TStP W0 wr v1 T tc vs (prsF (bs.take q))) (fun qv _ => n - (intOf qv).toNat)
  case atStart => exact ⟨0, Nat.zero_le _, rfl, S⟩
  case round =>
    clear S
    obtain ⟨q, hq, rfl, S⟩ := hrel
    by_cases hlq : q < n
    · have hlq' : (q : Int) < n := by omega
      have hql : q < bs.length := by rw [hla.out]; exact hlq
      obtain ⟨ad, Z, m, zc, rfl, cb0, hm1, hm2, hri⟩ := hr.get hlq
      have cb := below_cell S.b cb0
      have hlm : (row bs q).length = m := hri.len
      have hmv : m ≤ v1 := by rw [← hlm]; exact (des_row HD.out hql).1
      have HM := Lib.hid (fun (k : Nat) (hk : k < m) => (des_row HD.out hql).2 k (by omega))
      have HL := Lib.hid (prsF_len (fun i hi => Nat.le_trans (des_row HD.out hi).1 hv) q (by omega))
      have HLM := Lib.hid hlm
      have S : TStP W0 wr v1 T tc vs (prsF (bs.take q) ++ prsU (row bs q) 0) := by simpa [prsU] using S
      clear hlm
      go_wp2
      clear cb
      go_loopw [25] (fun iv wr => ∃ i : Nat, i ≤ m ∧ iv = .int .i64 i ∧ TStP W0 wr v1 T tc vs (prsF (bs.take q) ++ prsU (row bs q) i)) (fun iv _ => m - (intOf iv).toNat)
      case atStart => exact ⟨0, Nat.zero_le _, rfl, S⟩
      case round =>
        clear S
        obtain ⟨i, hi, rfl, S⟩ := hrel
        by_cases hli : i < m
        · have hli' : (i : Int) < m := by omega
          obtain ⟨xv, hxv, hxv2⟩ := HM.out i hli
          obtain ⟨za, rfl, cx0, -⟩ := hri.get hli
          rw [hxv] at cx0
          have cx := below_cell S.b cx0
          have HX := Lib.hid hxv
          have hLL : (prsF (bs.take q) ++ prsU (row bs q) i ++ ((row bs q).drop (i + 1)).map fun y => (nth (row bs q) i, y)).length ≤ 1000000 := by
            have h1 := HL.out
            have h2 := prsU_len (r := row bs q) (m := 32) (by rw [HLM.out]; omega) i
            simp only [List.length_append, List.length_map, List.length_drop]
            have := HLM.out
            omega
          have HLL := Lib.hid hLL
          clear hxv cx0 hLL
          by_cases hcc : i + 1 < zc
          · have hdr := hri.drop1 (k := i + 1) (by omega)
            have S : TStP W0 wr v1 T tc vs (prsF (bs.take q) ++ prsU (row bs q) i ++ (((row bs q).drop (i + 1)).take 0).map fun y => (nth (row bs q) i, y)) := by simpa using S
            go_wp2
            go_loopw [35] (fun jv wr => ∃ j : Nat, j ≤ m - (i + 1) ∧ jv = .int .i64 j ∧ TStP W0 wr v1 T tc vs (prsF (bs.take q) ++ prsU (row bs q) i ++ (((row bs q).drop (i + 1)).take j).map fun y => (nth (row bs q) i, y))) (fun jv _ => m - (i + 1) - (intOf jv).toNat)
            case atStart => exact ⟨0, Nat.zero_le _, rfl, S⟩
            case round =>
              clear S
              obtain ⟨j, hj, rfl, S⟩ := hrel
              by_cases hlj : j < m - (i + 1)
              · have hlj' : (j : Int) < ((m - (i + 1) : Nat) : Int) := by omega
                obtain ⟨yv, hyv, hyv2⟩ := HM.out (i + 1 + j) (by omega)
                obtain ⟨ya, hya, cy0, -⟩ := hdr.get (k := j) hlj
                cases hya
                rw [nth_drop', hyv, add_lit2] at cy0
                have cy := below_cell S.b cy0
                have HS := Lib.hid (drop_take_step (r := row bs q) (i := i) (j := j) (by rw [List.length_drop, HLM.out]; exact hlj))
                have hll : (prsF (bs.take q) ++ prsU (row bs q) i ++ (((row bs q).drop (i + 1)).take j).map fun y => (nth (row bs q) i, y)).length ≤ 1000000 := by
                  refine Nat.le_trans ?_ HLL.out
                  simp only [List.length_append, List.length_map, List.length_take]
                  omega
                obtain ⟨gT, r, kk, u, rfl, d1, d2, d3, d4, d5, d6, d7, d8, S2⟩ := S.put hxv2 hyv2 hll
                rw [List.append_assoc, ← hyv, ← HX.out] at S2
                have S3 := Lib.hid (show TStP W0 (wr.setCell ⟨r, yv, none⟩ (.int .i64 (u + 1))) v1 (some ⟨gT, 0, none⟩) tc vs (prsF (bs.take q) ++ prsU (row bs q) i ++ (((row bs q).drop (i + 1)).take (j + 1)).map fun y => (nth (row bs q) i, y)) by
                  rw [HS.out, nth_drop']
                  exact S2)
                clear S S2 cy0 hyv hll
                go_wp2
                go_roundw
                case rel => exact ⟨j + 1, by omega, by go_num, S3.out⟩
                case measure => simp [intOf]; omega
              · have hjm : j = m - (i + 1) := by omega
                have hlj' : ¬ (j : Int) < ((m - (i + 1) : Nat) : Int) := by omega
                have S2 : TStP W0 wr v1 T tc vs (prsF (bs.take q) ++ prsU (row bs q) (i + 1)) := by
                  rw [show ((row bs q).drop (i + 1)).take j = (row bs q).drop (i + 1) from List.take_of_length_le (by rw [List.length_drop, HLM.out]; omega), List.append_assoc, ← prsU_step] at S
                  exact S
                clear S hjm
                go_wp2
                go_roundw
                case rel => exact ⟨i + 1, by omega, by go_num, S2⟩
                case measure => simp [intOf]; omega
          · obtain rfl : zc = i + 1 := by omega
            have him : m = i + 1 := by omega
            have S2 : TStP W0 wr v1 T tc vs (prsF (bs.take q) ++ prsU (row bs q) (i + 1)) := by
              have hd : (row bs q).drop (i + 1) = [] := List.drop_eq_nil_of_le (by rw [HLM.out]; omega)
              rw [prsU_step, hd, List.map_nil, List.append_nil]
              exact S
            have HIM := Lib.hid him
            clear him S
            go_wp2
            go_loopw [35] (fun jv wr' => jv = .int .i64 0 ∧ wr' = wr) (fun _ _ => 0)
            case atStart => exact ⟨rfl, rfl⟩
            case round =>
              obtain ⟨rfl, rfl⟩ := hrel
              have hz0 : m - (i + 1) = 0 := by have := HIM.out; omega
              go_wp2
              go_roundw
              case rel => exact ⟨i + 1, by omega, by go_num, S2⟩
              case measure => simp [intOf]; omega
        · obtain rfl : i = m := by omega
          have S : TStP W0 wr v1 T tc vs (prsF (bs.take (q + 1))) := by
            rw [prsF_take hql, HLM.out]; exact S
          go_wp2
          go_roundw
          case rel => exact ⟨q + 1, by omega, by go_num, S⟩
          case measure => simp [intOf]; omega
    · obtain rfl : q = n := by omega
      rw [List.take_of_length_le (by rw [hla.out]; exact Nat.le_refl _)] at S
      obtain ⟨⟨zss, ho, hT⟩, hb⟩ := S
      have hR := OR.reads ⟨vs, ho⟩
      have HT := Lib.hid hT
      have hwb := hbx.trans (hb.mono hbx.size)
      obtain ⟨wo, rfl⟩ : ∃ wo : World, wo = wr := ⟨_, rfl⟩
      have hC0 : OI wo wo.heap.size 2 none 0 0 (prP v1 bs 0) := OI.nil_ _ _ _
      clear ho hT hr hb
      go_wp2
      go_loopw [10, 53] (fun cv av wr => ∃ (a : Nat) (C : Option Addr) (k cc : Nat), a ≤ v1 ∧ av = .int .i64 a ∧ cv = .slice C k cc ∧ k ≤ 32 * a ∧ OI wr wo.heap.size 2 C k cc (prP v1 bs a) ∧ Below wo.heap.size wo wr) (fun _ av _ => v1 - (intOf av).toNat)
      case atStart => exact ⟨0, none, 0, 0, Nat.zero_le _, rfl, rfl, Nat.le_refl _, hC0, Below.refl _ _⟩
      case round =>
        clear hC0
        obtain ⟨a, C, k, cc, hav, rfl, rfl, hk, ho, hb⟩ := hrel
        by_cases hlt : a < v1
        · have hlt' : (a : Int) < v1 := by omega
          obtain ⟨ta, Z, m, zc, rfl, ct, hm1, hm2, hri⟩ := (hR.keep hb).get hlt
          have hlm : (row zss a).length = m := hri.len
          obtain rfl : v1 = m := by rw [← hlm, HT.out.rows a hlt]
          obtain ⟨za, rfl, -, -⟩ := hri.get (k := 0) (by omega)
          have HE := Lib.hid (HT.out.ends HD.out hlt)
          have hsz := hb.size
          clear hlm
          by_cases hcc : a + 1 < zc
          · have hdr := hri.drop1 (k := a + 1) (by omega)
            rw [HE.out] at hdr
            have hza : za.add (a + 1) = ⟨za.block, za.off + (a + 1), none⟩ := by unfold Addr.add; rw [if_neg (by omega)]
            rw [hza] at hdr
            clear hza
            go_wp2_with (at_builtin; refine app_ints _ rfl (.tmp 58) (.tmp 62) rfl wo.heap.size C k cc _ rfl ho (some ⟨za.block, za.off + (a + 1), none⟩) (v1 - (a + 1)) (zc - (a + 1)) _ rfl hdr (by omega) hsz ?_; intro A3 c3 w3 ho3 hg3 hf3)
            have hb3 := below_own hb hg3 hsz (fun q hq => (ho.os.lt hq).1)
            rw [← prP_step] at ho3
            clear ho hb hg3 hf3 hdr
            go_roundw
            case rel => exact ⟨a + 1, A3, k + (v1 - (a + 1)), c3, by omega, by go_num, rfl, by omega, ho3, hb3⟩
            case measure => simp [intOf]; omega
          · obtain rfl : zc = a + 1 := by omega
            have h00 : v1 - (a + 1) = 0 := by omega
            have hd : ∀ p, RI wr p 0 (prB bs a (v1 - a - 1)) := by
              intro p
              have h1 : v1 - a - 1 = 0 := by omega
              rw [h1]
              exact RS.nil_ _ _ _
            go_wp2_with (at_builtin; refine app_ints _ rfl (.tmp 58) (.tmp 62) rfl wo.heap.size C k cc _ rfl ho _ _ _ _ rfl (by first | exact hd _ | (rw [h00]; exact hd _)) (by omega) hsz ?_; intro A3 c3 w3 ho3 hg3 hf3)
            have hb3 := below_own hb hg3 hsz (fun q hq => (ho.os.lt hq).1)
            rw [← prP_step] at ho3
            clear ho hb hg3 hf3 hd
            go_roundw
            case rel => exact ⟨a + 1, A3, k, c3, by omega, by go_num, rfl, by omega, ho3, hb3⟩
            case measure => simp [intOf]; omega
        · obtain rfl : a = v1 := by omega
          have hb2 := hwb.trans (hb.mono hwb.size)
          have ho2 := ho.more hwb.size
          go_wp2
          go_ret
          exact ⟨_, _, _, rfl, ho2, hb2⟩
end Go.Proofs.YtnmcmologlgccaaGreat
/- How often each point is in blocks: the program's side. No condition beyond those stated. -/
namespace Go.Proofs.YtnmcmologlgccaaGreat
open Go.RowKit

set_option maxRecDepth 100000 in
set_option maxHeartbeats 8000000 in
theorem replicationsOf_any (v : Nat) (A : Option Addr) (n c : Nat) (bs : List (List Int)) (w : World) (ha : RR w A n bs) (hD : Design (v : Int) bs) :
    Calls Tryz.prog 47 #[.agg #[.int .i64 (v : Int), .slice A n c]] w (RetI w 2 (repP v bs)) := by
  have hla := Lib.hid ha.len
  have hv : v ≤ 32 := by have := hD.v2; omega
  have hn : n ≤ 128 := by rw [← hla.out]; exact hD.len
  have HD := Lib.hid hD
  clear hD
  have hmk := run_make_row' (P := Tryz.prog) 36 2 (.int .i64 0) 8 Tryz.underlying36 int_info rfl .i64 .i64 v (by omega) (by omega)
  have hB := Blk.new w 28 #[.int .i64 (v : Int), .slice A n c]
  have hbx := below_alloc w (.cells #[.int .i64 (v : Int), .slice A n c] 28)
  have ha := ha.keep hbx
  have ho0 := OI.made (w.alloc (.cells #[.int .i64 (v : Int), .slice A n c] 28)) (w.alloc (.cells #[.int .i64 (v : Int), .slice A n c] 28)).heap.size 2 v (Nat.le_refl _) (by omega)
  have hb0 := below_alloc (w.alloc (.cells #[.int .i64 (v : Int), .slice A n c] 28)) (.cells (madeCells #[.int .i64 0] v) 2)
  have hX0 := hB.after hb0
  have hsz : (w.alloc (.cells #[.int .i64 (v : Int), .slice A n c] 28)).heap.size = w.heap.size + 1 := by simp
  rw [hsz] at ho0
  have hb0 : Below (w.heap.size + 1) _ _ := hsz ▸ hb0
  have hC0 : CntIs v (List.replicate v 0) [] := ⟨by simp, fun x hx => by simp [nth, List.getD, hx]⟩
  obtain ⟨y0, y1⟩ := hB.cells2
  obtain ⟨q0, q1⟩ := hX0.cells2
  go_enter Tryz.func47, Tryz.ntmps47
  go_wp2
  clear q0 q1 hmk
  clear y0 y1
  generalize hgd : w.heap.size = gd at *
  generalize hW0 : w.alloc (.cells #[.int .i64 (v : Int), .slice A n c] 28) = W0 at *
  go_loopw [14] (fun iv wr => ∃ (i : Nat) (zs : List Int), i ≤ n ∧ iv = .int .i64 i ∧ OI wr (gd + 1) 2 (some ⟨(gd + 1), 0, none⟩) v v zs ∧ CntIs v zs (bs.take i).flatten ∧ Below (gd + 1) W0 wr ∧ Blk wr gd 28 #[.int .i64 (v : Int), .slice A n c]) (fun iv _ => n - (intOf iv).toNat)
  case atStart => exact ⟨0, _, Nat.zero_le _, rfl, ho0, by simpa using hC0, hb0, hX0⟩
  case round =>
    clear ho0 hb0 hX0 hC0
    obtain ⟨i, zs, hi, rfl, ho, hC, hw, X⟩ := hrel
    obtain ⟨x0, x1⟩ := X.cells2
    by_cases hlt : i < n
    · have hil : i < bs.length := by rw [hla.out]; exact hlt
      obtain ⟨hm, hent⟩ := des_row HD.out hil
      have HM := Lib.hid hent
      clear hent
      obtain ⟨ad, R, m, rc, rfl, cr0, hm1, hm2, hri0⟩ := ha.get hlt
      have hw0 : Below W0.heap.size W0 wr := by rw [hsz]; exact hw
      have cr := below_cell hw0 cr0
      have hlr := hri0.len
      have hmm : ∀ k, k < m → k < (row bs i).length := fun k h => by omega
      go_wp2
      clear x0 x1 cr hw0
      go_loopw [20] (fun kv wr => ∃ (k : Nat) (zs : List Int), k ≤ m ∧ kv = .int .i64 k ∧ OI wr (gd + 1) 2 (some ⟨(gd + 1), 0, none⟩) v v zs ∧ CntIs v zs ((bs.take i).flatten ++ (row bs i).take k) ∧ Below (gd + 1) W0 wr ∧ Blk wr gd 28 #[.int .i64 (v : Int), .slice (some ad) n c]) (fun kv _ => m - (intOf kv).toNat)
      case atStart => exact ⟨0, zs, Nat.zero_le _, rfl, ho, by simpa using hC, hw, X⟩
      case round =>
        clear ho hC hw X
        obtain ⟨k, zs, hk, rfl, ho, hC, hw, X⟩ := hrel
        obtain ⟨x0, x1⟩ := X.cells2
        have hw0 : Below W0.heap.size W0 wr := by rw [hsz]; exact hw
        have hri := hri0.keep hw0
        by_cases hlk : k < (row bs i).length
        · obtain ⟨y, hy, hyv⟩ := HM.out k hlk
          obtain ⟨ra, rfl, ck, -⟩ := hri.get (k := k) (by omega)
          rw [hy] at ck
          obtain ⟨g0, hg0, cz, fz, iz⟩ := ho.cell hyv
          cases hg0
          have hzb : nth zs y ≤ 8192 ∧ 0 ≤ nth zs y := by
            rw [hC.2 y hyv]
            have h1 := List.count_le_length (a := (y : Int)) (l := (bs.take i).flatten ++ (row bs i).take k)
            have h2 := flat_lenP (fun i hi => (des_row HD.out hi).1) i (by omega)
            have h3 : i * v ≤ 128 * 32 := Nat.mul_le_mul (by omega) hv
            rw [List.length_append, List.length_take] at h1
            omega
          have HC2 := Lib.hid (hC.step hyv)
          rw [List.append_assoc, ← hy, ← row_take hlk] at HC2
          have ho2 := ho.set y (u := nth zs y + 1) ⟨by omega, by omega⟩
          have hw2 := Below.setCell hw (p := ⟨(gd + 1), y, none⟩) (Nat.le_refl _) (.int .i64 (nth zs y + 1))
          have X2 := X.after' (grown_setB (w := wr) (g := (gd + 1)) (p := y) (u := .int .i64 (nth zs y + 1))) ho
          have hlk' : (k : Int) < m := by omega
          have hkm : k < m := by omega
          clear ho hC hw X hri
          generalize hzn : zs.set y (nth zs y + 1) = zn at *
          clear hzn
          generalize nth zs y = u at *
          go_wp2
          go_roundw
          case rel => exact ⟨k + 1, zn, by omega, by go_num, ho2, HC2.out, hw2, X2⟩
          case measure => simp [intOf]; omega
        · have hkm : k = m := by omega
          have hlk' : ¬ (k : Int) < m := by omega
          have hC2 : CntIs v zs (bs.take (i + 1)).flatten := by
            rw [show (row bs i).take k = row bs i from List.take_of_length_le (by omega), ← flat_take hil] at hC
            exact hC
          clear hC hri hlr hkm
          go_wp2
          go_roundw
          case rel => exact ⟨i + 1, zs, by omega, by go_num, ho, hC2, hw, X⟩
          case measure => simp [intOf]; omega
    · obtain rfl : i = n := by omega
      rw [List.take_of_length_le (by rw [hla.out]; exact Nat.le_refl _)] at hC
      obtain rfl := hC.eq
      go_wp2
      go_ret
      subst hgd
      have hb9 := hbx.trans (hw.mono (by omega))
      have ho9 := ho.more (Nat.le_succ _)
      exact ⟨_, _, _, rfl, ho9, hb9⟩
end Go.Proofs.YtnmcmologlgccaaGreat
/- The parameters of a balanced design: the program's side. No condition beyond those stated. -/
namespace Go.Proofs.YtnmcmologlgccaaGreat
open Go.RowKit

set_option maxRecDepth 100000 in
theorem sizI_any (A : Option Addr) (n c : Nat) (w : World) (_ : n ≤ 9223372036854775807) : Calls Tryz.prog 48 #[.slice A n c] w fun e w' => e = .returned (.int .i64 n) ∧ w = w' := by
  go_enter Tryz.func48, Tryz.ntmps48
  go_wp2
  go_ret
  exact ⟨rfl, rfl⟩
set_option maxRecDepth 100000 in
theorem sizR_any (A : Option Addr) (n c : Nat) (w : World) (_ : n ≤ 9223372036854775807) : Calls Tryz.prog 24 #[.slice A n c] w fun e w' => e = .returned (.int .i64 n) ∧ w = w' := by
  go_enter Tryz.func24, Tryz.ntmps24
  go_wp2
  go_ret
  exact ⟨rfl, rfl⟩
theorem Bal.row0 {v k : Nat} {bs : List (List Int)} {lam : Int} (h : Bal v bs k lam) : (row bs 0).length = k := h.len 0 h.b1
theorem Bal.kv {v k : Nat} {bs : List (List Int)} {lam : Int} (h : Bal v bs k lam) : k ≤ v := by
  have := (des_row h.d (i := 0) h.b1).1
  rw [h.row0] at this
  exact this
theorem Bal.r0 {v k : Nat} {bs : List (List Int)} {lam : Int} (h : Bal v bs k lam) : bs.flatten.count 0 ≤ 4096 := by
  have h1 := List.count_le_length (a := (0 : Int)) (l := bs.flatten)
  have h2 := flat_lenP (fun i hi => (des_row h.d hi).1) bs.length (Nat.le_refl _)
  rw [List.take_length] at h2
  have h3 : bs.length * v ≤ 128 * 32 := Nat.mul_le_mul h.d.len (by have := h.d.v2; omega)
  omega
set_option maxRecDepth 100000 in
set_option maxHeartbeats 8000000 in
theorem parametersOf_any (v : Nat) (A : Option Addr) (n c : Nat) (bs : List (List Int)) (k : Nat) (lam : Int) (w : World) (ha : RR w A n bs) (hb : Bal v bs k lam) :
    Calls Tryz.prog 27 #[.agg #[.int .i64 (v : Int), .slice A n c]] w (fun e w' => e = .returned (.tuple #[.agg (parV v bs.length (bs.flatten.count 0) k lam), .bool true]) ∧ Below w.heap.size w w') := by
  have HB := Lib.hid hb
  have hla := ha.len
  have hv : v ≤ 32 := by have := hb.d.v2; omega
  have hn : n ≤ 128 := by rw [← hla]; exact hb.d.len
  have hv2 := hb.v2
  have hn1 : 0 < n := by rw [← hla]; exact hb.b1
  have hk2 := hb.k2
  have hkv := hb.kv
  have hr0 := hb.r0
  obtain ⟨r0, hr0e⟩ : ∃ r0, r0 = bs.flatten.count 0 := ⟨_, rfl⟩
  rw [← hr0e, hla]
  rw [← hr0e] at hr0
  have HR0 := Lib.hid hr0e
  have HLA := Lib.hid hla
  clear hla hb hr0e
  have X := Blk.new w 28 #[.int .i64 (v : Int), .slice A n c]
  have hbx := below_alloc w (.cells #[.int .i64 (v : Int), .slice A n c] 28)
  have R := Blk.new (w.alloc (.cells #[.int .i64 (v : Int), .slice A n c] 28)) 32 #[.int .i64 0, .int .i64 0, .int .i64 0, .int .i64 0, .int .i64 0]
  have hbr := below_alloc (w.alloc (.cells #[.int .i64 (v : Int), .slice A n c] 28)) (.cells #[.int .i64 0, .int .i64 0, .int .i64 0, .int .i64 0, .int .i64 0] 32)
  have hsz : (w.alloc (.cells #[.int .i64 (v : Int), .slice A n c] 28)).heap.size = w.heap.size + 1 := by simp
  rw [hsz] at R
  have X := X.after hbr
  have hw := hbx.trans (hbr.mono hbx.size)
  have hr := ha.keep hw
  clear ha hbx hbr hsz
  obtain ⟨ad, Z, m, zc, rfl, cz, hk1, hk22, hrz⟩ := hr.get (k := 0) hn1
  obtain rfl : k = m := by rw [← hrz.len, HB.out.row0]
  clear hrz
  have cz : ((w.alloc (.cells #[.int .i64 (v : Int), .slice (some ad) n c] 28)).alloc (.cells #[.int .i64 0, .int .i64 0, .int .i64 0, .int .i64 0, .int .i64 0] 32)).cell? ad = some (.slice Z k zc) := cz
  obtain ⟨x0, x1⟩ := X.cells2
  have e1 : ¬ (v : Int) < 2 := by omega
  have e2 : ((n : Int) == 0) = false := by simp; omega
  have e3 : ¬ (k : Int) < 2 := by omega
  go_enter Tryz.func27, Tryz.ntmps27
  go_wp2_with fail
  generalize hW1 : (w.alloc (.cells #[.int .i64 (v : Int), .slice (some ad) n c] 28)).alloc (.cells #[.int .i64 0, .int .i64 0, .int .i64 0, .int .i64 0, .int .i64 0] 32) = W1 at *
  refine (pairCounts_any v (some ad) n c bs W1 hr HB.out.d).mono ?_
  rintro e w2 ⟨P, pn, pc, rfl, hop, hb2⟩
  have hw2 := hw.trans (hb2.mono hw.size)
  have X := X.after hb2
  have R := R.after hb2
  have hr := hr.keep hb2
  have hop := hop.more hw.size
  have hpl := hop.len
  have hpos := prP_pos (bs := bs) (v := v) hv2
  have hple := prP_len_le (v := v) (bs := bs) v (Nat.le_refl _)
  have hvv : v * v ≤ 32 * 32 := Nat.mul_le_mul hv hv
  obtain ⟨gp, rfl, cp, -, ip⟩ := hop.cell (k := 0) (by omega)
  have hpn : 0 < pn := by omega
  have hpn2 : pn ≤ 1024 := by omega
  rw [HB.out.lam 0 (by omega)] at cp ip
  have HPL := Lib.hid hpl
  have cz2 := below_cell hb2 cz
  clear hpl hple hvv hpos hb2 x0 x1 cz
  obtain ⟨x0, x1⟩ := X.cells2
  clear hW1
  go_wp2
  go_loop [32] (fun iv => ∃ i : Nat, i ≤ n ∧ iv = .int .i64 i) (fun iv => n - (intOf iv).toNat)
  case atStart => exact ⟨0, Nat.zero_le _, rfl⟩
  case round =>
    obtain ⟨i, hi, rfl⟩ := hrel
    by_cases hlt : i < n
    · obtain ⟨ad', Y, m, yc, had, cy, hm1, hm2, hry⟩ := hr.get hlt
      cases had
      obtain rfl : k = m := by rw [← hry.len, HB.out.len i (by rw [HLA.out]; exact hlt)]
      clear hry
      go_wp2
      go_round
      case rel => exact ⟨i + 1, by omega, by go_num⟩
      case measure => simp [intOf]; omega
    · obtain rfl : i = n := by omega
      go_wp2
      go_loop [48] (fun jv => ∃ j : Nat, j ≤ pn ∧ jv = .int .i64 j) (fun jv => pn - (intOf jv).toNat)
      case atStart => exact ⟨0, Nat.zero_le _, rfl⟩
      case round =>
        obtain ⟨j, hj, rfl⟩ := hrel
        by_cases hlj : j < pn
        · obtain ⟨gp', hgp, cj, -, ij⟩ := hop.cell hlj
          cases hgp
          rw [HB.out.lam j (by rw [HPL.out]; exact hlj)] at cj ij
          go_wp2
          go_round
          case rel => exact ⟨j + 1, by omega, by go_num⟩
          case measure => simp [intOf]; omega
        · obtain rfl : j = pn := by omega
          have HC := Lib.hid (fun (w' : World) (hb : Below w2.heap.size w2 w') => replicationsOf_any v (some ad) i c bs w' (hr.keep hb) HB.out.d)
          have HR := Lib.hid (fun (w' : World) (hb : Below w2.heap.size w2 w') => R.after hb)
          clear hop R X hr
          go_wp2
          have hdr : Below w2.heap.size w2 w2.drew := by have := below_drewn w2 1; rwa [← World.drew_is_drewN] at this
          have HX := Lib.hid (And.intro x0 (And.intro x1 (And.intro cz2 cp)))
          refine region_suf (P := Tryz.prog) (n := 18) (S := fun w' => w'.cell? ⟨w.heap.size, 0, none⟩ = some (.int .i64 (v : Int)) ∧ w'.cell? ⟨w.heap.size, 1, none⟩ = some (.slice (some ad) i c) ∧ w'.cell? ad = some (.slice Z k zc) ∧ w'.cell? ⟨gp, 0, none⟩ = some (.int .i64 lam)) (by kernel_rfl) (by simp only [List.take_succ_cons, List.take_zero]; rfl) (by simp only [List.drop_succ_cons, List.drop_zero]; rfl) (by kernel_rfl) (by simpa using ⟨x0, x1, cz2, cp⟩) ?_
          intro hS
          refine wpAnyH_take (i := 0) (v := ?_) rfl (by kernel_rfl) (by kernel_rfl) (by kernel_rfl) (fun _ _ _ h => h) (Or.inl ⟨by rfl, ?_⟩) (by assumption) ?_
          rotate_left
          · (intro w hSw; (try dsimp only at hSw); go_simp; (try with_reducible rfl))
          simp only [Act.put, List.setIfInBounds_toArray, List.set_cons_zero, List.set_cons_succ]
          refine wpAnyH_take (i := 1) (v := ?_) rfl (by kernel_rfl) (by kernel_rfl) (by kernel_rfl) (fun _ _ _ h => h) (Or.inl ⟨by rfl, ?_⟩) (by assumption) ?_
          rotate_left
          · (intro w hSw; (try dsimp only at hSw); go_simp; (try with_reducible rfl))
          simp only [Act.put, List.setIfInBounds_toArray, List.set_cons_zero, List.set_cons_succ]
          refine wpAnyH_take (i := 2) (v := ?_) rfl (by kernel_rfl) (by kernel_rfl) (by kernel_rfl) (fun _ _ _ h => h) (Or.inl ⟨by rfl, ?_⟩) (by assumption) ?_
          rotate_left
          · (intro w hSw; (try dsimp only at hSw); go_simp; (try with_reducible rfl))
          simp only [Act.put, List.setIfInBounds_toArray, List.set_cons_zero, List.set_cons_succ]
          refine wpAnyH_take (i := 3) (v := ?_) rfl (by kernel_rfl) (by kernel_rfl) (by kernel_rfl) (fun _ _ _ h => h) (Or.inl ⟨by rfl, ?_⟩) (by assumption) ?_
          rotate_left
          · (intro w hSw; (try dsimp only at hSw); go_simp; (try with_reducible rfl))
          simp only [Act.put, List.setIfInBounds_toArray, List.set_cons_zero, List.set_cons_succ]
          refine wpAnyH_take (i := 5) (v := ?_) rfl (by kernel_rfl) (by kernel_rfl) (by kernel_rfl) (fun _ _ _ h => h) (Or.inl ⟨by rfl, ?_⟩) (by assumption) ?_
          rotate_left
          · (intro w hSw; (try dsimp only at hSw); go_simp; (try with_reducible rfl))
          simp only [Act.put, List.setIfInBounds_toArray, List.set_cons_zero, List.set_cons_succ]
          refine wpAnyH_take (i := 9) (v := ?_) rfl (by kernel_rfl) (by kernel_rfl) (by kernel_rfl) (fun _ _ _ h => h) (Or.inl ⟨by rfl, ?_⟩) (by assumption) ?_
          rotate_left
          · (intro w hSw; (try dsimp only at hSw); go_simp; (try with_reducible rfl))
          simp only [Act.put, List.setIfInBounds_toArray, List.set_cons_zero, List.set_cons_succ]
          refine wpAnyH_take (i := 10) (v := ?_) rfl (by kernel_rfl) (by kernel_rfl) (by kernel_rfl) (fun _ _ _ h => h) (Or.inl ⟨by rfl, ?_⟩) (by assumption) ?_
          rotate_left
          · (intro w hSw; (try dsimp only at hSw); go_simp; (try with_reducible rfl))
          simp only [Act.put, List.setIfInBounds_toArray, List.set_cons_zero, List.set_cons_succ]
          refine wpAnyH_take (i := 11) (v := ?_) rfl (by kernel_rfl) (by kernel_rfl) (by kernel_rfl) (fun _ _ _ h => h) (Or.inl ⟨by rfl, ?_⟩) (by assumption) ?_
          rotate_left
          · (intro w hSw; (try dsimp only at hSw); go_simp; (try with_reducible rfl))
          simp only [Act.put, List.setIfInBounds_toArray, List.set_cons_zero, List.set_cons_succ]
          refine wpAnyH_take (i := 12) (v := ?_) rfl (by kernel_rfl) (by kernel_rfl) (by kernel_rfl) (fun _ _ _ h => h) (Or.inl ⟨by rfl, ?_⟩) (by assumption) ?_
          rotate_left
          · (intro w hSw; (try dsimp only at hSw); go_simp; (try with_reducible rfl))
          simp only [Act.put, List.setIfInBounds_toArray, List.set_cons_zero, List.set_cons_succ]
          refine wpAnyH_take (i := 14) (v := ?_) rfl (by kernel_rfl) (by kernel_rfl) (by kernel_rfl) (fun _ _ _ h => h) (Or.inl ⟨by rfl, ?_⟩) (by assumption) ?_
          rotate_left
          · (intro w hSw; (try dsimp only at hSw); go_simp; (try with_reducible rfl))
          simp only [Act.put, List.setIfInBounds_toArray, List.set_cons_zero, List.set_cons_succ]
          refine wpAnyH_take (i := 15) (v := ?_) rfl (by kernel_rfl) (by kernel_rfl) (by kernel_rfl) (fun _ _ _ h => h) (Or.inl ⟨by rfl, ?_⟩) (by assumption) ?_
          rotate_left
          · (intro w hSw; (try dsimp only at hSw); go_simp; (try with_reducible rfl))
          simp only [Act.put, List.setIfInBounds_toArray, List.set_cons_zero, List.set_cons_succ]
          refine wpAnyH_take (i := 16) (v := ?_) rfl (by kernel_rfl) (by kernel_rfl) (by kernel_rfl) (fun _ _ _ h => h) (Or.inl ⟨by rfl, ?_⟩) (by assumption) ?_
          rotate_left
          · (intro w hSw; (try dsimp only at hSw); go_simp; (try with_reducible rfl))
          simp only [Act.put, List.setIfInBounds_toArray, List.set_cons_zero, List.set_cons_succ]
          refine wpAnyH_ready (rs := [4]) (by kernel_rfl) (by simp) ?_
          refine AllReadyH.cons rfl (fun K hK => ?_) AllReadyH.nil
          go_simp
          refine (sizR_any (some ad) i c _ (by omega)).mono ?_
          rintro e w3 ⟨rfl, rfl⟩
          dsimp only
          refine hK.out _ _ hS (fun hS1 => ?_)
          clear hK K
          refine wpAnyH_ready (rs := [6]) (by kernel_rfl) (by simp) ?_
          refine AllReadyH.cons rfl (fun K hK => ?_) AllReadyH.nil
          go_simp
          refine (HC.out _ hdr).mono ?_
          rintro e w5 ⟨Q, qn, qc, rfl, hoq, hb5⟩
          dsimp only
          have hX5 := hdr.trans (hb5.mono hdr.size)
          have hql := hoq.len
          have hqv : qn = v := by rw [← hql]; simp [repP]
          have R := HR.out _ hX5
          have hw5 := hw2.trans (hX5.mono hw2.size)
          obtain ⟨gq, hgq, cq, -, iq⟩ := hoq.cell (k := 0) (by omega)
          have hrep : nth (repP v bs) 0 = ((bs.flatten.count 0 : Nat) : Int) := by rw [nth_get (by simp [repP]; omega)]; simp [repP]
          rw [hrep, ← HR0.out] at cq
          refine hK.out _ _ ⟨below_cell hX5 HX.out.1, below_cell hX5 HX.out.2.1, below_cell hX5 HX.out.2.2.1, below_cell hX5 HX.out.2.2.2⟩ (fun hS2 => ?_)
          clear hK K hS hS1
          subst hgq
          clear hql hrep iq hoq
          have hqv' : 0 < qn := by omega
          have hv0 : 0 < v := by omega
          refine wpAnyH_take (i := 7) (v := ?_) rfl (by kernel_rfl) (by kernel_rfl) (by kernel_rfl) (fun _ _ _ h => h) (Or.inl ⟨by rfl, ?_⟩) (by assumption) ?_
          rotate_left
          · (intro w hSw; (try dsimp only at hSw); go_simp; (try with_reducible rfl))
          simp only [Act.put, List.setIfInBounds_toArray, List.set_cons_zero, List.set_cons_succ]
          refine wpAnyH_ready (rs := [8, 13]) (by kernel_rfl) (by simp) ?_
          refine AllReadyH.cons rfl (fun K hK => ?_) (AllReadyH.cons rfl (fun K hK => ?_) AllReadyH.nil)
          · go_simp
            refine hK.out _ _ hS2 (fun hS3 => ?_)
            clear hK K
            refine wpAnyH_ready (rs := [13]) (by kernel_rfl) (by simp) ?_
            refine AllReadyH.cons rfl (fun K hK => ?_) AllReadyH.nil
            go_simp
            refine (sizI_any Z k zc _ (by omega)).mono ?_
            rintro e w3 ⟨rfl, rfl⟩
            dsimp only
            refine hK.out _ _ hS3 (fun hS4 => ?_)
            clear hK K
            refine wpAnyH_take (i := 17) (v := ?_) rfl (by kernel_rfl) (by kernel_rfl) (by kernel_rfl) (fun _ _ _ h => h) (Or.inl ⟨by rfl, ?_⟩) (by assumption) ?_
            rotate_left
            · (intro w hSw; (try dsimp only at hSw); go_simp; (try with_reducible rfl))
            simp only [Act.put, List.setIfInBounds_toArray, List.set_cons_zero, List.set_cons_succ]
            refine wpAnyH_done (by kernel_rfl) ?_ _
            dsimp only [atEnd]
            clear hS2 hS3 hS4
            obtain ⟨y0, y1, y2, y3, y4⟩ := R.cells5
            have f0 := R.frozen 0
            have f1 := R.frozen 1
            have f2 := R.frozen 2
            have f3 := R.frozen 3
            have f4 := R.frozen 4
            obtain ⟨z0, z1, z2, z3, z4⟩ := (put5 (a := .int .i64 (v : Int)) (b := .int .i64 (i : Int)) (c := .int .i64 (r0 : Int)) (d := .int .i64 (k : Int)) (e := .int .i64 lam) R).cells5
            have hbz := below5 (a := .int .i64 (v : Int)) (b := .int .i64 (i : Int)) (c := .int .i64 (r0 : Int)) (d := .int .i64 (k : Int)) (e := .int .i64 lam) hw5 (Nat.le_succ w.heap.size)
            clear R cq HX cp cz2 x0 x1
            go_wp2
            exact bodyPost_ret (v := .tuple #[.agg #[.int .i64 (v : Int), .int .i64 (i : Int), .int .i64 (r0 : Int), .int .i64 (k : Int), .int .i64 lam], .bool true]) (by simp [results, Tryz.results27, go_sem, z0, z1, z2, z3, z4]) rfl ⟨rfl, hbz⟩
          · go_simp
            refine (sizI_any Z k zc _ (by omega)).mono ?_
            rintro e w3 ⟨rfl, rfl⟩
            dsimp only
            refine hK.out _ _ hS2 (fun hS3 => ?_)
            clear hK K
            refine wpAnyH_ready (rs := [8]) (by kernel_rfl) (by simp) ?_
            refine AllReadyH.cons rfl (fun K hK => ?_) AllReadyH.nil
            go_simp
            refine hK.out _ _ hS3 (fun hS4 => ?_)
            clear hK K
            refine wpAnyH_take (i := 17) (v := ?_) rfl (by kernel_rfl) (by kernel_rfl) (by kernel_rfl) (fun _ _ _ h => h) (Or.inl ⟨by rfl, ?_⟩) (by assumption) ?_
            rotate_left
            · (intro w hSw; (try dsimp only at hSw); go_simp; (try with_reducible rfl))
            simp only [Act.put, List.setIfInBounds_toArray, List.set_cons_zero, List.set_cons_succ]
            refine wpAnyH_done (by kernel_rfl) ?_ _
            dsimp only [atEnd]
            clear hS2 hS3 hS4
            obtain ⟨y0, y1, y2, y3, y4⟩ := R.cells5
            have f0 := R.frozen 0
            have f1 := R.frozen 1
            have f2 := R.frozen 2
            have f3 := R.frozen 3
            have f4 := R.frozen 4
            obtain ⟨z0, z1, z2, z3, z4⟩ := (put5 (a := .int .i64 (v : Int)) (b := .int .i64 (i : Int)) (c := .int .i64 (r0 : Int)) (d := .int .i64 (k : Int)) (e := .int .i64 lam) R).cells5
            have hbz := below5 (a := .int .i64 (v : Int)) (b := .int .i64 (i : Int)) (c := .int .i64 (r0 : Int)) (d := .int .i64 (k : Int)) (e := .int .i64 lam) hw5 (Nat.le_succ w.heap.size)
            clear R cq HX cp cz2 x0 x1
            go_wp2
            exact bodyPost_ret (v := .tuple #[.agg #[.int .i64 (v : Int), .int .i64 (i : Int), .int .i64 (r0 : Int), .int .i64 (k : Int), .int .i64 lam], .bool true]) (by simp [results, Tryz.results27, go_sem, z0, z1, z2, z3, z4]) rfl ⟨rfl, hbz⟩
end Go.Proofs.YtnmcmologlgccaaGreat
/- The parameters of a design: both sides' calls, and the draw. No condition beyond those stated. -/
namespace Go.Proofs.YtnmcmologlgccaaGreat
open Go.RowKit

set_option maxRecDepth 100000 in
set_option maxHeartbeats 8000000 in
theorem implPar_any (v : Nat) (A : Option Addr) (n c : Nat) (bs : List (List Int)) (k : Nat) (lam : Int) (w : World) (ha : RR w A n bs) (hb : Bal v bs k lam) :
    Calls Tryz.prog 8 #[.agg #[.int .i64 (v : Int), .slice A n c]] w (fun e w' => e = .returned (.tuple #[.agg (parV v bs.length (bs.flatten.count 0) k lam), .int .i64 0]) ∧ Below w.heap.size w w') := by
  have hla := ha.len
  have hn : n ≤ 9223372036854775807 := by have := hb.d.len; omega
  have HB := Lib.hid hb
  have hval := fun (w' : World) (h : RR w' A n bs) => validDesign_any (v : Int) A n c bs w' h hn
  rw [tB_yes hb.d] at hval
  have hpar := fun (w' : World) (h : RR w' A n bs) => parametersOf_any v A n c bs k lam w' h hb
  unfold parV at *
  rw [hla] at *
  generalize bs.flatten.count 0 = r0 at *
  have X := Blk.new w 28 #[.int .i64 (v : Int), .slice A n c]
  have hbx := below_alloc w (.cells #[.int .i64 (v : Int), .slice A n c] 28)
  have R := Blk.new (w.alloc (.cells #[.int .i64 (v : Int), .slice A n c] 28)) 32 #[.int .i64 0, .int .i64 0, .int .i64 0, .int .i64 0, .int .i64 0]
  have hbr := below_alloc (w.alloc (.cells #[.int .i64 (v : Int), .slice A n c] 28)) (.cells #[.int .i64 0, .int .i64 0, .int .i64 0, .int .i64 0, .int .i64 0] 32)
  have hsz : (w.alloc (.cells #[.int .i64 (v : Int), .slice A n c] 28)).heap.size = w.heap.size + 1 := by simp
  rw [hsz] at R
  have X := X.after hbr
  have hw := hbx.trans (hbr.mono hbx.size)
  have hr := ha.keep hw
  clear ha hbx hbr hsz
  obtain ⟨x0, x1⟩ := X.cells2
  go_enter Tryz.func8, Tryz.ntmps8
  go_wp2_with fail
  refine (hval _ hr).mono ?_
  rintro e w1 ⟨rfl, hb1⟩
  have hw1 := hw.trans (hb1.mono hw.size)
  have X := X.after hb1
  have R := R.after hb1
  have hr := hr.keep hb1
  clear hb1 hw x0 x1 hval
  obtain ⟨x0, x1⟩ := X.cells2
  go_wp2_with fail
  refine (hpar _ hr).mono ?_
  rintro e w3 ⟨rfl, hb3⟩
  have hw3 := hw1.trans (hb3.mono hw1.size)
  have R := R.after hb3
  clear hb3 hw1 x0 x1 hpar
  have H4 : Hid (Blk (w3.alloc (.cells #[.int .i64 (v : Int), .int .i64 (n : Int), .int .i64 (r0 : Int), .int .i64 (k : Int), .int .i64 lam] 32)) w3.heap.size 32 #[.int .i64 (v : Int), .int .i64 (n : Int), .int .i64 (r0 : Int), .int .i64 (k : Int), .int .i64 lam] ∧ Blk (w3.alloc (.cells #[.int .i64 (v : Int), .int .i64 (n : Int), .int .i64 (r0 : Int), .int .i64 (k : Int), .int .i64 lam] 32)) (w.heap.size + 1) 32 #[.int .i64 0, .int .i64 0, .int .i64 0, .int .i64 0, .int .i64 0] ∧ Below w.heap.size w (w3.alloc (.cells #[.int .i64 (v : Int), .int .i64 (n : Int), .int .i64 (r0 : Int), .int .i64 (k : Int), .int .i64 lam] 32))) := by
    have hb4 := below_alloc w3 (.cells #[.int .i64 (v : Int), .int .i64 (n : Int), .int .i64 (r0 : Int), .int .i64 (k : Int), .int .i64 lam] 32)
    exact Lib.hid ⟨Blk.new w3 32 #[.int .i64 (v : Int), .int .i64 (n : Int), .int .i64 (r0 : Int), .int .i64 (k : Int), .int .i64 lam], R.after hb4, hw3.trans (hb4.mono hw3.size)⟩
  clear R X hr hw3
  go_upto_region 6 with (fail)
  generalize (w3.alloc (.cells #[.int .i64 (v : Int), .int .i64 (n : Int), .int .i64 (r0 : Int), .int .i64 (k : Int), .int .i64 lam] 32)) = W4 at *
  obtain ⟨PZ, R4, hw4⟩ := H4.out
  clear H4
  obtain ⟨pz0, pz1, pz2, pz3, pz4⟩ := PZ.cells5
  have hw5 := below5 (a := .int .i64 (v : Int)) (b := .int .i64 (n : Int)) (c := .int .i64 (r0 : Int)) (d := .int .i64 (k : Int)) (e := .int .i64 lam) hw4 (Nat.le_succ w.heap.size)
  obtain ⟨ry0, ry1, ry2, ry3, ry4⟩ := R4.cells5
  have rf0 := R4.frozen 0
  have rf1 := R4.frozen 1
  have rf2 := R4.frozen 2
  have rf3 := R4.frozen 3
  have rf4 := R4.frozen 4
  have rZ := put5 (a := .int .i64 (v : Int)) (b := .int .i64 (n : Int)) (c := .int .i64 (r0 : Int)) (d := .int .i64 (k : Int)) (e := .int .i64 lam) R4
  obtain ⟨rz0, rz1, rz2, rz3, rz4⟩ := rZ.cells5
  clear PZ R4 rZ hw4
  go_wp2
  exact bodyPost_ret (v := .tuple #[.agg #[.int .i64 (v : Int), .int .i64 (n : Int), .int .i64 (r0 : Int), .int .i64 (k : Int), .int .i64 lam], .int .i64 0]) (by simp [results, Tryz.results8, go_sem, rz0, rz1, rz2, rz3, rz4]) rfl ⟨rfl, hw5⟩
end Go.Proofs.YtnmcmologlgccaaGreat
/- From the form's reading of an argument to this proof's words: a slice of numbers, of bytes, of slices of numbers. No condition beyond those stated. -/
namespace Go.Proofs.YtnmcmologlgccaaGreat
open Go.ChangeShapes Go.WideShapes Go.ChangeAt Go.RowKit Go.Deep

section
variable {H : Type} {enc : TypeId × Value → H} {P : Program} {w : World} {fuel : Nat}
theorem open_RI {t e : TypeId} {v : Value} {x : DataW H × List MemPlace} (ht : P.underlying t = some (.slice e)) (he : P.underlying e = some (.int .i64)) (hc : P.cellsOf e = 1)
    (h : DataW.trod enc P w 0 (fun _ => true) true fuel t [v] = some x) : ∃ A n c zs, v = .slice A n c ∧ n ≤ c ∧ c ≤ 9223372036854775807 ∧ RI w A n zs := by
  rcases open_ints ht he hc h with ⟨hcs, _⟩ | ⟨a, len, cap, zs, hcs, _, hl, hm, hz, _, hcell, hwz⟩
  · simp at hcs
    exact ⟨none, 0, 0, [], hcs, by omega, by omega, RS.nil_ _ _ _⟩
  · simp at hcs hz
    refine ⟨some a, len, cap, zs.take len, hcs, hl, by unfold maxLen at hm; exact hm, ?_, fun j y hy => ?_⟩
    · rw [List.length_take]; omega
    · rw [List.getElem?_take] at hy
      split at hy
      · rename_i hj
        have hj' : j < zs.length := by omega
        have e1 : zs.getD j 0 = y := by simp [List.getD, hy]
        refine ⟨a, _, rfl, hcell j hj', by rw [e1], ?_⟩
        exact I64.of_wf (hwz y (List.mem_of_getElem? hy))
      · cases hy
theorem open_RR {t e q : TypeId} {v : Value} {x : DataW H × List MemPlace} (ht : P.underlying t = some (.slice e)) (he : P.underlying e = some (.slice q)) (hq : P.underlying q = some (.int .i64))
    (ce : P.cellsOf e = 1) (cq : P.cellsOf q = 1) (h : DataW.trod enc P w 0 (fun _ => true) true fuel t [v] = some x) :
    ∃ A n c zss, v = .slice A n c ∧ n ≤ c ∧ c ≤ 9223372036854775807 ∧ RR w A n zss := by
  rcases open_int_rows ht he hq ce cq h with ⟨hcs, _⟩ | ⟨a, len, cap, A, L, C, Z, hcs, _, hl, hm, _, hr⟩
  · simp at hcs
    exact ⟨none, 0, 0, [], hcs, by omega, by omega, RS.nil_ _ _ _⟩
  · simp at hcs
    refine ⟨some a, len, cap, (List.range len).map fun r => (Z r).take (L r), hcs, hl, by unfold maxLen at hm; exact hm, by simp, fun j y hy => ?_⟩
    have hj : j < len := by
      have := (List.getElem?_eq_some_iff.1 hy).1
      simpa using this
    have ey : (Z j).take (L j) = y := by simpa [hj] using hy
    obtain ⟨h1, h2, h3, h4, h5, h6, h7⟩ := hr j (by omega)
    refine ⟨a, _, rfl, h1, A j, L j, C j, rfl, h2, by unfold maxLen at h3; exact h3, ?_, fun i z hz => ?_⟩
    · rw [← ey, List.length_take]; omega
    · rw [← ey, List.getElem?_take] at hz
      split at hz
      · rename_i hi
        have hi' : i < C j := by omega
        cases hA : A j with
        | none => have := h6 hA; omega
        | some a' =>
          have hcell := (h7 a' hA).2 i hi'
          have e1 : (Z j).getD i 0 = z := by simp [List.getD, hz]
          exact ⟨a', _, rfl, hcell, by rw [e1], I64.of_wf (h5 z (List.mem_of_getElem? hz))⟩
      · cases hz
theorem open_RB {t e : TypeId} {v : Value} {x : DataW H × List MemPlace} (ht : P.underlying t = some (.slice e)) (he : P.underlying e = some (.int .u8)) (hc : P.cellsOf e = 1)
    (h : DataW.trod enc P w 0 (fun _ => true) true fuel t [v] = some x) : ∃ A n c zs, v = .slice A n c ∧ n ≤ c ∧ c ≤ 9223372036854775807 ∧ RS EByte w A n zs := by
  rcases open_ints ht he hc h with ⟨hcs, _⟩ | ⟨a, len, cap, zs, hcs, _, hl, hm, hz, _, hcell, hwz⟩
  · simp at hcs
    exact ⟨none, 0, 0, [], hcs, by omega, by omega, RS.nil_ _ _ _⟩
  · simp at hcs hz
    refine ⟨some a, len, cap, zs.take len, hcs, hl, by unfold maxLen at hm; exact hm, ?_, fun j y hy => ?_⟩
    · rw [List.length_take]; omega
    · rw [List.getElem?_take] at hy
      split at hy
      · rename_i hj
        have hj' : j < zs.length := by omega
        have e1 : zs.getD j 0 = y := by simp [List.getD, hy]
        refine ⟨a, _, rfl, hcell j hj', by rw [e1], ?_⟩
        exact bounds_u8 (hwz y (List.mem_of_getElem? hy))
      · cases hy
end
end Go.Proofs.YtnmcmologlgccaaGreat
