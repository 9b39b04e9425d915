/- Projective planes: the reference's side. No condition beyond those stated. -/
import Derived.Test.YtnmcmologlgccaaGreatSZBG
set_option linter.unusedVariables false
set_option linter.unusedSimpArgs false
namespace Go.Proofs.YtnmcmologlgccaaGreat
open Go.RowKit
def trp (t : Tr) : List Int := [t.1, t.2.1, t.2.2]
theorem trp_at (t : Tr) {c : Nat} (h : c < 3) : nth (trp t) c = tAt t c := by
  have : c = 0 ∨ c = 1 ∨ c = 2 := by omega
  rcases this with rfl | rfl | rfl <;> rfl
def ptsR (q : Nat) : List (List Int) := (ptsP q).map trp
theorem ptsR_len (q : Nat) : (ptsR q).length = q * q + q + 1 := by rw [ptsR, List.length_map, ptsP_len]
theorem ptsR_row {q j : Nat} (h : j < (ptsP q).length) : row (ptsR q) j = trp (nthT (ptsP q) j) := by
  rw [row_get (by rw [ptsR, List.length_map]; exact h), nthT_get h]
  simp [ptsR]
set_option maxRecDepth 100000 in
set_option maxHeartbeats 4000000 in
theorem l12Triples_any (q : Nat) (w : World) (h5 : q ≤ 5) :
    Calls Tryz.prog 166 #[.int .i64 q] w (RetR w 36 2 (ptsR q)) := by
  have hoA := OI.lit w w.heap.size 2 [0, 0, 1] (Nat.le_refl _) (by simp) (by intro x hx; simp at hx; unfold I64; omega)
  have hbA := below_alloc w (.cells (ints [0, 0, 1]).toArray 2)
  have hoL := ORv.litH (v := (some ⟨w.heap.size, 0, none⟩, 3, 3)) hoA hbA.size
  have hbL := hbA.alloc hbA.size (.cells #[.slice (some ⟨w.heap.size, 0, none⟩) 3 3] 36)
  rw [show (w.alloc (.cells (ints [0, 0, 1]).toArray 2)).heap.size = w.heap.size + 1 by simp] at hoL
  have G0 : Grw w ((w.alloc (.cells #[.int .i64 0, .int .i64 0, .int .i64 1] 2)).alloc (.cells #[.slice (some ⟨w.heap.size, 0, none⟩) 3 3] 36)) (some ⟨w.heap.size + 1, 0, none⟩) 1 1 [[0, 0, 1]] := ⟨⟨_, hoL⟩, hbL⟩
  have hq2 : q * q ≤ 5 * 5 := Nat.mul_le_mul h5 h5
  have hLN := ptsR_len q
  have HLEN := Lib.hid (show (ptsR q).length ≤ 128 by omega)
  have HL0 : Hid (ptsR q = [[0, 0, 1]] ++ ((ptsZ q 0 1 0).map trp ++ (ptsY q 0).map trp)) := Lib.hid (by simp [ptsR, ptsP, trp])
  have HLC := Lib.hid (fun (done rest : List (List Int)) (h : ptsR q = done ++ rest) => Nat.le_trans (len_left h) HLEN.out)
  generalize ptsR q = L at *
  clear hLN hq2 hoA hbA hoL hbL
  go_enter Tryz.func166, Tryz.ntmps166
  go_wp2
  go_loopw [3, 4] (fun ov zv wr => ∃ (z : Nat) (B : Option Addr) (k bc : Nat) (done : List (List Int)), z ≤ q ∧ zv = .int .i64 z ∧ ov = .slice B k bc ∧ Grw w wr B k bc done ∧ Hid (L = done ++ ((ptsZ q 0 1 z).map trp ++ (ptsY q 0).map trp))) (fun _ zv _ => q - (intOf zv).toNat)
  case atStart => exact ⟨0, _, 1, 1, _, Nat.zero_le _, rfl, rfl, G0, HL0⟩
  case round =>
    clear G0 HL0
    obtain ⟨z, B, k, bc, done, hz, rfl, rfl, G, HD⟩ := hrel
    by_cases hlt : z < q
    · have H1 : Hid (L = (done ++ [trp (0, 1, (z : Int))]) ++ ((ptsZ q 0 1 (z + 1)).map trp ++ (ptsY q 0).map trp)) := Lib.hid (by rw [HD.out, ptsZ_step 0 1 hlt, List.append_assoc]; rfl)
      have hk := HLC.out _ _ HD.out
      rw [G.1.len] at hk
      have ho2 := OI.lit wr wr.heap.size 2 [0, 1, (z : Int)] (Nat.le_refl _) (by simp) (by intro x hx; simp at hx; unfold I64; omega)
      have hb2 := below_alloc wr (.cells (ints [0, 1, (z : Int)]).toArray 2)
      obtain ⟨vs, G⟩ := G.row ho2 hb2
      have hlw := G.b.size
      clear ho2 hb2 HD
      go_wp2_with (at_builtin; refine app_row _ rfl _ _ rfl w.heap.size B k bc vs _ rfl G.o (some ⟨wr.heap.size, 0, none⟩, 3, 3) _ G.r G.ap _ rfl (by simp) (by omega) hlw ?_; intro A3 c3 w3 ho3 hg3 hf3)
      have G := G.done ho3 hg3
      clear ho3 hg3 hf3
      exact ⟨⟨z + 1, A3, k + 1, c3, _, by omega, by go_num, rfl, G, H1⟩, by simp only [intOf]; omega⟩
    · obtain rfl : z = q := by omega
      have H1 : Hid (L = done ++ (ptsY z 0).map trp) := Lib.hid (by rw [HD.out, ptsZ_end]; rfl)
      clear HD
      go_wp2
      go_loopw [3, 5] (fun ov yv wr => ∃ (y : Nat) (B : Option Addr) (k bc : Nat) (done : List (List Int)), y ≤ z ∧ yv = .int .i64 y ∧ ov = .slice B k bc ∧ Grw w wr B k bc done ∧ Hid (L = done ++ (ptsY z y).map trp)) (fun _ yv _ => z - (intOf yv).toNat)
      case atStart => exact ⟨0, B, k, bc, done, Nat.zero_le _, rfl, rfl, G, H1⟩
      case round =>
        clear G H1
        obtain ⟨y, B, k, bc, done, hy, rfl, rfl, G, HD⟩ := hrel
        by_cases hly : y < z
        · have H1 : Hid (L = done ++ ((ptsZ z 1 y 0).map trp ++ (ptsY z (y + 1)).map trp)) := Lib.hid (by rw [HD.out, ptsY_step hly, List.map_append])
          clear HD
          go_wp2
          go_loopw [3, 6] (fun ov xv wr => ∃ (x : Nat) (B : Option Addr) (k bc : Nat) (done : List (List Int)), x ≤ z ∧ xv = .int .i64 x ∧ ov = .slice B k bc ∧ Grw w wr B k bc done ∧ Hid (L = done ++ ((ptsZ z 1 y x).map trp ++ (ptsY z (y + 1)).map trp))) (fun _ xv _ => z - (intOf xv).toNat)
          case atStart => exact ⟨0, B, k, bc, done, Nat.zero_le _, rfl, rfl, G, H1⟩
          case round =>
            clear G H1
            obtain ⟨x, B, k, bc, done, hx, rfl, rfl, G, HD⟩ := hrel
            by_cases hlx : x < z
            · have H1 : Hid (L = (done ++ [trp (1, (y : Int), (x : Int))]) ++ ((ptsZ z 1 y (x + 1)).map trp ++ (ptsY z (y + 1)).map trp)) := Lib.hid (by rw [HD.out, ptsZ_step 1 y hlx, List.append_assoc]; rfl)
              have hk := HLC.out _ _ HD.out
              rw [G.1.len] at hk
              have ho2 := OI.lit wr wr.heap.size 2 [1, (y : Int), (x : Int)] (Nat.le_refl _) (by simp) (by intro x hx; simp at hx; unfold I64; omega)
              have hb2 := below_alloc wr (.cells (ints [1, (y : Int), (x : Int)]).toArray 2)
              obtain ⟨vs, G⟩ := G.row ho2 hb2
              have hlw := G.b.size
              clear ho2 hb2 HD
              go_wp2_with (at_builtin; refine app_row _ rfl _ _ rfl w.heap.size B k bc vs _ rfl G.o (some ⟨wr.heap.size, 0, none⟩, 3, 3) _ G.r G.ap _ rfl (by simp) (by omega) hlw ?_; intro A3 c3 w3 ho3 hg3 hf3)
              have G := G.done ho3 hg3
              clear ho3 hg3 hf3
              exact ⟨⟨x + 1, A3, k + 1, c3, _, by omega, by go_num, rfl, G, H1⟩, by simp only [intOf]; omega⟩
            · obtain rfl : x = z := by omega
              have H1 : Hid (L = done ++ (ptsY x (y + 1)).map trp) := Lib.hid (by rw [HD.out, ptsZ_end]; rfl)
              clear HD
              go_wp2
              go_round
              case rel => exact ⟨y + 1, B, k, bc, done, by omega, by go_num, rfl, G, H1⟩
              case measure => simp only [intOf]; omega
        · obtain rfl : y = z := by omega
          have H1 : Hid (L = done) := Lib.hid (by rw [HD.out, ptsY_end]; simp)
          obtain ⟨ho, hb⟩ := G
          go_wp2
          go_ret
          exact ⟨_, _, _, rfl, by rw [H1.out]; exact ho, hb⟩
set_option maxRecDepth 100000 in
set_option maxHeartbeats 8000000 in
theorem l12Space_any {p : Int} {k : Nat} (hm : (p, k) ∈ PKL) (q : Nat) (w : World) (hq : p ^ k = (q : Int)) (h2 : 2 ≤ q) (h5 : q ≤ 5) :
    Calls Tryz.prog 124 #[.int .i64 q] w (RetWD w ((q * q + q + 1 : Nat) : Int) (srtR (prjL q p k (mkP p k)))) := by
  have hb0 := below_alloc w (.cells #[.int .i64 0, .slice none 0 0] 28)
  have Y := Blk.new w 28 #[.int .i64 0, .slice none 0 0]
  have hmk := l03Make_any hm (q : Int) (w.alloc (.cells #[.int .i64 0, .slice none 0 0] 28)) hq
  obtain ⟨hfz, hfl⟩ := mkP_ok hm
  have hq2 : q * q ≤ 5 * 5 := Nat.mul_le_mul h5 h5
  obtain ⟨N, hN⟩ : ∃ N, N = q * q + q + 1 := ⟨_, rfl⟩
  have hNb : N ≤ 31 := by omega
  have HPQ := Lib.hid hq
  have HTL : Hid ((ptsP q).length = N) := Lib.hid (by rw [ptsP_len, hN])
  rw [← hN]
  have HTB := Lib.hid (fun (j t : Nat) (h : j < N) => tAt_bd (q := q) h2 (t := t) (by rw [HTL.out]; exact h))
  have HTR := Lib.hid (fun (j t : Nat) (h : j < N) (ht : t < 3) => show nth (row (ptsR q) j) t = tAt (nthT (ptsP q) j) t from by rw [ptsR_row (by rw [HTL.out]; exact h), trp_at _ ht])
  have HTS := Lib.hid (fun (j : Nat) (h : j < N) => show (row (ptsR q) j).length = 3 from by rw [ptsR_row (by rw [HTL.out]; exact h)]; rfl)
  have HRL : Hid ((ptsR q).length = N) := Lib.hid (by rw [ptsR_len, hN])
  have HL0 : Hid (prjL q p k (mkP p k) = prjK p k (mkP p k) (ptsP q) N) := Lib.hid (by rw [prjL, HTL.out])
  have htr := fun (W : World) => l12Triples_any q W h5
  have HTRI := Lib.hid htr
  generalize hF : mkP p k = f at *
  generalize ptsP q = ts at *
  generalize ptsR q = PR at *
  rw [HL0.out]
  clear hq2 hF hN HL0 htr
  go_enter Tryz.func124, Tryz.ntmps124
  go_wp2_with fail
  refine hmk.mono ?_
  rintro e w1 ⟨A, n, c, rfl, hof, hb1⟩
  have hz0 : (w.alloc (.cells #[.int .i64 0, .slice none 0 0] 28)).heap.size = w.heap.size + 1 := by simp
  have Y1 := (Y.after hb1).alloc (.cells #[.int .i64 p, .int .i64 (k : Int), .slice A n c] 135)
  have G1 := Blk.new w1 135 #[.int .i64 p, .int .i64 (k : Int), .slice A n c]
  have ha1 := below_alloc w1 (.cells #[.int .i64 p, .int .i64 (k : Int), .slice A n c] 135)
  have hr1 := (hof.reads).keep ha1
  have hw1 := (hb0.trans (hb1.mono hb0.size)).trans (ha1.mono (by have := hb1.size; omega))
  have hzz : w.heap.size + 1 ≤ (w1.alloc (.cells #[.int .i64 p, .int .i64 (k : Int), .slice A n c] 135)).heap.size := by have := hb1.size; simp at this ⊢; omega
  have hFA : FAt (w1.alloc (.cells #[.int .i64 p, .int .i64 (k : Int), .slice A n c] 135)) w1.heap.size p k A n c f := ⟨G1.cell 0, G1.cell 1, G1.cell 2, hr1⟩
  have htri := HTRI.out (w1.alloc (.cells #[.int .i64 p, .int .i64 (k : Int), .slice A n c] 135))
  clear hmk hof hb1 ha1 hb0 Y hz0 hr1 G1 HTRI
  go_wp2_with fail
  generalize w1.alloc (.cells #[.int .i64 p, .int .i64 (k : Int), .slice A n c] 135) = V0 at *
  generalize w1.heap.size = gf at *
  refine htri.mono ?_
  rintro e V1 ⟨P, pn, pc, rfl, hop, hb2⟩
  obtain rfl : pn = N := by rw [← hop.len, HRL.out]
  have hrp := OR.reads hop
  have hFA := hFA.keep hb2
  have Y2 := Y1.after hb2
  have hw2 := hw1.trans (hb2.mono hw1.size)
  have hzz : w.heap.size + 1 ≤ V1.heap.size := by have := hb2.size; omega
  clear htri hop hb2 Y1 hw1
  have G0 := Grw.start V1 V1 (Below.refl _ _)
  have HFO := Lib.hid (show FldOk p k f from by have := hfz.2; rwa [Int.toNat_natCast] at this)
  have hp61 := PR_bd hfz.2.pr
  have hk6 : k ≤ 6 := (pow_le64 hp61.1 HFO.out.k1 HFO.out.q64).2
  have HG := Lib.hid (fun (W : World) (h : Below V1.heap.size V1 W) => And.intro (hFA.keep h) (hrp.keep h))
  clear hfz hfl hFA hrp
  go_wp2
  go_loopw [5, 6] (fun ov iv wr => ∃ (i : Nat) (B : Option Addr) (bc : Nat), i ≤ pn ∧ iv = .int .i64 i ∧ ov = .slice B i bc ∧ Grw V1 wr B i bc (prjK p k f ts i)) (fun _ iv _ => pn - (intOf iv).toNat)
  case atStart => exact ⟨0, _, 0, Nat.zero_le _, rfl, rfl, G0⟩
  case round =>
    clear G0
    obtain ⟨i, B, bc, hi, rfl, rfl, G⟩ := hrel
    by_cases hli : i < pn
    · have hb2 := below_alloc wr (.cells #[] 2)
      have ho2 := OI.lit0 wr 2
      have HST : Hid (prjK p k f ts (i + 1) = prjK p k f ts i ++ [lineT p k f ts (nthT ts i) pn]) := Lib.hid (by rw [prjK_step, HTL.out])
      go_wp2
      generalize hW : wr = W1 at *
      clear hW
      generalize W1.alloc (.cells #[] 2) = W2 at *
      go_loopw [7, 8] (fun lv jv wr => ∃ (j m : Nat) (R : Option Addr) (rc : Nat), j ≤ pn ∧ m ≤ j ∧ jv = .int .i64 j ∧ lv = .slice R m rc ∧ OI wr W1.heap.size 2 R m rc (lineT p k f ts (nthT ts i) j) ∧ Below W1.heap.size W1 wr) (fun _ jv _ => pn - (intOf jv).toNat)
      case atStart => exact ⟨0, 0, _, 0, Nat.zero_le _, Nat.zero_le _, rfl, rfl, ho2, hb2⟩
      case round =>
        clear ho2 hb2
        obtain ⟨j, m, R, rc, hj, hmj, rfl, rfl, hor, hbr⟩ := hrel
        by_cases hlj : j < pn
        · go_wp2
          generalize hW : wr = W3 at *
          clear hW
          go_loopw [9, 10] (fun sv cv wr => ∃ (t : Nat), t ≤ 3 ∧ cv = .int .i64 t ∧ sv = .int .i64 (dotK p k f (nthT ts i) (nthT ts j) t) ∧ Below W3.heap.size W3 wr) (fun _ cv _ => 3 - (intOf cv).toNat)
          case atStart => exact ⟨0, by omega, rfl, rfl, Below.refl _ _⟩
          case round =>
            obtain ⟨t, ht, rfl, rfl, hb3⟩ := hrel
            by_cases hlt : t < 3
            · have hbG := G.2
              have hwr := (hbG.trans (hbr.mono hbG.size)).trans (hb3.mono (by have := hbG.size; have := hbr.size; omega))
              obtain ⟨hFW, hRW⟩ := HG.out _ hwr
              obtain ⟨ad, S1, n1, c1, rfl, cs1, _, _, hr1⟩ := hRW.get hli
              obtain ⟨_, S2, n2, c2, e2, cs2, _, _, hr2⟩ := hRW.get hlj
              cases e2
              have hn1 : n1 = 3 := by rw [← hr1.len, HTS.out i hli]
              have hn2 : n2 = 3 := by rw [← hr2.len, HTS.out j hlj]
              subst hn1; subst hn2
              obtain ⟨a1, rfl, x1, _⟩ := hr1.get hlt
              obtain ⟨a2, rfl, x2, _⟩ := hr2.get hlt
              rw [HTR.out i t hli hlt] at x1
              rw [HTR.out j t hlj hlt] at x2
              obtain ⟨u0, u1⟩ := HTB.out i t hli
              obtain ⟨v0, v1⟩ := HTB.out j t hlj
              have hFO := HFO.out
              have hp0 : 0 < p := by omega
              obtain ⟨m0, m1⟩ := mulP_bd hp0 k f (tAt (nthT ts i) t) (tAt (nthT ts j) t)
              obtain ⟨d0, d1⟩ := dotK_bd hp0 k f (nthT ts i) (nthT ts j) t
              rw [HPQ.out] at m1 d1
              have HDK : Hid (dotK p k f (nthT ts i) (nthT ts j) (t + 1) = sumP p k 1 (dotK p k f (nthT ts i) (nthT ts j) t) (mulP p k f (tAt (nthT ts i) t) (tAt (nthT ts j) t))) := Lib.hid rfl
              have HPR := Lib.hid (fun (W : World) (h : Below wr.heap.size wr W) => l03Mul_any gf p k A n c f (tAt (nthT ts i) t) (tAt (nthT ts j) t) W (hFW.keep h) hFO ⟨by omega, by omega⟩ ⟨by omega, by omega⟩)
              have HCB := Lib.hid (fun (W : World) (h : Below wr.heap.size wr W) => l03Sum_any gf p k A n c f (dotK p k f (nthT ts i) (nthT ts j) t) (mulP p k f (tAt (nthT ts i) t) (tAt (nthT ts j) t)) 1 W (hFW.keep h) hp61.1 hp61.2 hFO.q64 hk6 ⟨by omega, by omega⟩ ⟨by omega, by omega⟩ ⟨by omega, by omega⟩)
              have hdr : Below wr.heap.size wr wr.drew := by have := below_drewn wr 1; rwa [← World.drew_is_drewN] at this
              clear hFO hFW hRW hr1 hr2 hbG hwr
              generalize tAt (nthT ts i) t = u at *
              generalize tAt (nthT ts j) t = v at *
              rw [← HDK.out] at HCB
              generalize dotK p k f (nthT ts i) (nthT ts j) t = dt at *
              generalize mulP p k f u v = mu at *
              clear HDK
              go_wp2
              refine region_sufX (P := Tryz.prog) (n := 15) (i := 0) (v := .int .i64 dt) (S := fun w' => w'.cell? (ad.add i) = some (.slice (some a1) 3 c1) ∧ w'.cell? (ad.add j) = some (.slice (some a2) 3 c2) ∧ w'.cell? (a1.add t) = some (.int .i64 u) ∧ w'.cell? (a2.add t) = some (.int .i64 v) ∧ Below wr.heap.size wr w') (by kernel_rfl) (by simp only [List.take_succ_cons, List.take_zero]; rfl) (by simp only [List.drop_succ_cons, List.drop_zero]; rfl) (by kernel_rfl) rfl (by decide) (by kernel_rfl) (by kernel_rfl) (by kernel_rfl) (by kernel_rfl) (fun _ _ _ h => h) (Or.inl ⟨by rfl, ?_⟩) ⟨below_cell hdr cs1, below_cell hdr cs2, below_cell hdr x1, below_cell hdr x2, hdr⟩ ?_
              · intro w5
                go_simp
              intro hS
              simp only [Act.put, List.setIfInBounds_toArray, List.set_cons_zero, List.set_cons_succ]
              generalize wr.drew = W5 at *
              clear hdr cs1 cs2 x1 x2
              refine wpAnyH_take (i := 1) (v := ?_) rfl (by kernel_rfl) (by kernel_rfl) (by kernel_rfl) (fun _ _ _ h => h) (Or.inl ⟨by rfl, ?_⟩) (by assumption) ?_
              rotate_left
              · (intro w hSw; (try dsimp only at hSw); go_simp; (try with_reducible rfl))
              simp only [Act.put, List.setIfInBounds_toArray, List.set_cons_zero, List.set_cons_succ]
              refine wpAnyH_take (i := 2) (v := ?_) rfl (by kernel_rfl) (by kernel_rfl) (by kernel_rfl) (fun _ _ _ h => h) (Or.inl ⟨by rfl, ?_⟩) (by assumption) ?_
              rotate_left
              · (intro w hSw; (try dsimp only at hSw); go_simp; (try with_reducible rfl))
              simp only [Act.put, List.setIfInBounds_toArray, List.set_cons_zero, List.set_cons_succ]
              refine wpAnyH_take (i := 3) (v := ?_) rfl (by kernel_rfl) (by kernel_rfl) (by kernel_rfl) (fun _ _ _ h => h) (Or.inl ⟨by rfl, ?_⟩) (by assumption) ?_
              rotate_left
              · (intro w hSw; (try dsimp only at hSw); go_simp; (try with_reducible rfl))
              simp only [Act.put, List.setIfInBounds_toArray, List.set_cons_zero, List.set_cons_succ]
              refine wpAnyH_take (i := 4) (v := ?_) rfl (by kernel_rfl) (by kernel_rfl) (by kernel_rfl) (fun _ _ _ h => h) (Or.inl ⟨by rfl, ?_⟩) (by assumption) ?_
              rotate_left
              · (intro w hSw; (try dsimp only at hSw); go_simp; (try with_reducible rfl))
              simp only [Act.put, List.setIfInBounds_toArray, List.set_cons_zero, List.set_cons_succ]
              refine wpAnyH_take (i := 5) (v := ?_) rfl (by kernel_rfl) (by kernel_rfl) (by kernel_rfl) (fun _ _ _ h => h) (Or.inl ⟨by rfl, ?_⟩) (by assumption) ?_
              rotate_left
              · (intro w hSw; (try dsimp only at hSw); go_simp; (try with_reducible rfl))
              simp only [Act.put, List.setIfInBounds_toArray, List.set_cons_zero, List.set_cons_succ]
              refine wpAnyH_take (i := 6) (v := ?_) rfl (by kernel_rfl) (by kernel_rfl) (by kernel_rfl) (fun _ _ _ h => h) (Or.inl ⟨by rfl, ?_⟩) (by assumption) ?_
              rotate_left
              · (intro w hSw; (try dsimp only at hSw); go_simp; (try with_reducible rfl))
              simp only [Act.put, List.setIfInBounds_toArray, List.set_cons_zero, List.set_cons_succ]
              refine wpAnyH_take (i := 7) (v := ?_) rfl (by kernel_rfl) (by kernel_rfl) (by kernel_rfl) (fun _ _ _ h => h) (Or.inl ⟨by rfl, ?_⟩) (by assumption) ?_
              rotate_left
              · (intro w hSw; (try dsimp only at hSw); go_simp; (try with_reducible rfl))
              simp only [Act.put, List.setIfInBounds_toArray, List.set_cons_zero, List.set_cons_succ]
              refine wpAnyH_take (i := 8) (v := ?_) rfl (by kernel_rfl) (by kernel_rfl) (by kernel_rfl) (fun _ _ _ h => h) (Or.inl ⟨by rfl, ?_⟩) (by assumption) ?_
              rotate_left
              · (intro w hSw; (try dsimp only at hSw); go_simp; (try with_reducible rfl))
              simp only [Act.put, List.setIfInBounds_toArray, List.set_cons_zero, List.set_cons_succ]
              refine wpAnyH_take (i := 9) (v := ?_) rfl (by kernel_rfl) (by kernel_rfl) (by kernel_rfl) (fun _ _ _ h => h) (Or.inl ⟨by rfl, ?_⟩) (by assumption) ?_
              rotate_left
              · (intro w hSw; (try dsimp only at hSw); go_simp; (try with_reducible rfl))
              simp only [Act.put, List.setIfInBounds_toArray, List.set_cons_zero, List.set_cons_succ]
              refine wpAnyH_take (i := 10) (v := ?_) rfl (by kernel_rfl) (by kernel_rfl) (by kernel_rfl) (fun _ _ _ h => h) (Or.inl ⟨by rfl, ?_⟩) (by assumption) ?_
              rotate_left
              · (intro w hSw; (try dsimp only at hSw); go_simp; (try with_reducible rfl))
              simp only [Act.put, List.setIfInBounds_toArray, List.set_cons_zero, List.set_cons_succ]
              refine wpAnyH_take (i := 11) (v := ?_) rfl (by kernel_rfl) (by kernel_rfl) (by kernel_rfl) (fun _ _ _ h => h) (Or.inl ⟨by rfl, ?_⟩) (by assumption) ?_
              rotate_left
              · (intro w hSw; (try dsimp only at hSw); go_simp; (try with_reducible rfl))
              simp only [Act.put, List.setIfInBounds_toArray, List.set_cons_zero, List.set_cons_succ]
              refine wpAnyH_take (i := 12) (v := ?_) rfl (by kernel_rfl) (by kernel_rfl) (by kernel_rfl) (fun _ _ _ h => h) (Or.inl ⟨by rfl, ?_⟩) (by assumption) ?_
              rotate_left
              · (intro w hSw; (try dsimp only at hSw); go_simp; (try with_reducible rfl))
              simp only [Act.put, List.setIfInBounds_toArray, List.set_cons_zero, List.set_cons_succ]
              refine wpAnyH_take (i := 13) (v := ?_) rfl (by kernel_rfl) (by kernel_rfl) (by kernel_rfl) (fun _ _ _ h => h) (Or.inl ⟨by rfl, ?_⟩) (by assumption) ?_
              rotate_left
              · (intro w hSw; (try dsimp only at hSw); go_simp; (try with_reducible rfl))
              simp only [Act.put, List.setIfInBounds_toArray, List.set_cons_zero, List.set_cons_succ]
              refine wpAnyH_take (i := 14) (v := ?_) rfl (by kernel_rfl) (by kernel_rfl) (by kernel_rfl) (fun _ _ _ h => h) (Or.inl ⟨by rfl, ?_⟩) (by assumption) ?_
              rotate_left
              · (intro w hSw; (try dsimp only at hSw); go_simp; (try with_reducible rfl))
              simp only [Act.put, List.setIfInBounds_toArray, List.set_cons_zero, List.set_cons_succ]
              simp only [List.getElem_toArray, List.getElem_cons_succ, List.getElem_cons_zero]
              refine wpAnyH_done (by kernel_rfl) ?_ _
              dsimp only [atEnd]
              have hPR := HPR.out _ hS.2.2.2.2
              go_wp2_with fail
              refine hPR.mono ?_
              rintro e w6 ⟨rfl, hb6⟩
              have hb56 := hS.2.2.2.2.trans (hb6.mono hS.2.2.2.2.size)
              have hCB := HCB.out _ hb56
              clear hPR HPR HCB hS hb6
              go_wp2_with fail
              refine hCB.mono ?_
              rintro e w7 ⟨rfl, hb7⟩
              have hb57 := hb56.trans (hb7.mono hb56.size)
              have hb37 := hb3.trans (hb57.mono hb3.size)
              clear hCB hb7 hb56 hb57 hb3
              go_wp2
              exact ⟨⟨t + 1, by omega, by go_num, rfl, hb37⟩, by simp only [intOf]; omega⟩
            · obtain rfl : t = 3 := by omega
              have hor3 := hor.below hb3
              have hbr3 := hbr.trans (hb3.mono hbr.size)
              have hbs3 := hbr3.size
              clear hor hbr hb3
              by_cases h0 : dotK p k f (nthT ts i) (nthT ts j) 3 = 0
              · have HY : Hid (lineT p k f ts (nthT ts i) (j + 1) = lineT p k f ts (nthT ts i) j ++ [(j : Int)]) := Lib.hid (lineT_yes (by unfold onL; rw [h0]; rfl))
                have h0b : (dotK p k f (nthT ts i) (nthT ts j) 3 == 0) = true := by rw [h0]; rfl
                generalize dotK p k f (nthT ts i) (nthT ts j) 3 = dt at *
                clear h0
                go_wp2_with (at_builtin; refine app_int _ rfl _ _ rfl W1.heap.size R m rc _ rfl hor3 (j : Int) wr.heap.size rfl rfl ⟨by omega, by omega⟩ (by omega) (by omega) ?_; intro A5 c5 w5 ho5 hg5 hf5; have hb5 := below_own hbr3 hg5 (by omega) (fun b hb => (hor3.os.lt hb).1); rw [← HY.out] at ho5)
                exact ⟨⟨j + 1, m + 1, A5, c5, by omega, by omega, by go_num, rfl, ho5, hb5⟩, by simp only [intOf]; omega⟩
              · have HY : Hid (lineT p k f ts (nthT ts i) (j + 1) = lineT p k f ts (nthT ts i) j) := Lib.hid (lineT_no (by unfold onL; simpa using h0))
                have h0b : (dotK p k f (nthT ts i) (nthT ts j) 3 == 0) = false := by simpa using h0
                generalize dotK p k f (nthT ts i) (nthT ts j) 3 = dt at *
                clear h0
                rw [← HY.out] at hor3
                go_wp2
                exact ⟨⟨j + 1, m, R, rc, by omega, by omega, by go_num, rfl, hor3, hbr3⟩, by simp only [intOf]; omega⟩
        · obtain rfl : j = pn := by omega
          obtain ⟨vs, G⟩ := G.row hor hbr
          have hlw := G.b.size
          clear hor hbr
          generalize lineT p k f ts (nthT ts i) j = tr at *
          go_wp2_with (at_builtin; refine app_row _ rfl _ _ rfl V1.heap.size B i bc vs _ rfl G.o (R, m, rc) tr G.r G.ap _ rfl rfl (by omega) hlw ?_; intro A7 c7 w7 ho7 hg7 hn7)
          have G := G.done ho7 hg7
          clear ho7 hg7 hn7
          exact ⟨⟨i + 1, A7, c7, by omega, by go_num, rfl, by rw [HST.out]; exact G⟩, by simp only [intOf]; omega⟩
    · obtain rfl : i = pn := by omega
      have Y5 := Y2.below G.2 (by omega)
      have hrr := OR.reads G.1
      have hso := l10Sort_any B i bc _ wr hrr (by omega) (fun r hr => by
        have := lineT_len p k f ts (nthT ts r) ts.length
        rw [row_get (by rw [prjK_len]; exact hr)]
        simp only [prjK, List.getElem_map, List.getElem_range]
        have := HTL.out
        omega)
      have hwr := hw2.trans (G.2.mono hw2.size)
      have hDr : w.heap.size + 1 ≤ wr.heap.size := by have := G.2.size; omega
      clear hrr G HG HTB HTR HTS
      go_wp2_with fail
      refine hso.mono ?_
      rintro e w5 ⟨A5, c5, vs5, rfl, ho5, hb5⟩
      have Y6 := Y5.after hb5
      have hw5 := hwr.trans (hb5.mono hwr.size)
      obtain ⟨y0, y1⟩ := Y6.cells2
      have f0 := Y6.frozen 0
      have f1 := Y6.frozen 1
      obtain ⟨q0, q1, q2, q3⟩ := fin_storeB (v := (i : Int)) Y6 hw5 ho5 hDr
      have Q := Lib.hid (And.intro q0 q1)
      clear q0 q1 hso ho5 hb5 Y2 Y5 Y6 hw5 hwr
      go_wp2
      exact bodyPost_ret (v := .agg #[.int .i64 (i : Int), .slice A5 i c5]) (by simp [results, Tryz.results124, go_sem, q2, q3]) rfl ⟨A5, i, c5, rfl, ⟨_, Q.out.1⟩, Q.out.2⟩
set_option maxRecDepth 100000 in
set_option maxHeartbeats 2000000 in
theorem specProjectivePlane_any (q : Nat) (w : World) (h2 : 2 ≤ q) (h5 : q ≤ 5) :
    Calls Tryz.prog 76 #[.int .i64 q] w (RetW w ((q * q + q + 1 : Nat) : Int) (srtR (prjQ q)) 0) := by
  have Y := Blk.new w 28 #[.int .i64 0, .slice none 0 0]
  have hb0 := below_alloc w (.cells #[.int .i64 0, .slice none 0 0] 28)
  have hz0 : (w.alloc (.cells #[.int .i64 0, .slice none 0 0] 28)).heap.size = w.heap.size + 1 := by simp
  obtain ⟨hm, hpq, hmk⟩ := q_ok h2 h5
  have hpl := l12Space_any hm q (w.alloc (.cells #[.int .i64 0, .slice none 0 0] 28)) hpq h2 h5
  rw [hmk] at hpl
  have hsp := l03Split_t (q : Int) (w.alloc (.cells #[.int .i64 0, .slice none 0 0] 28)) (by omega) (by omega)
  have hs0 : (splS (q : Int) == 0) = false := by
    have hq : q ∈ [2, 3, 4, 5] := by
      have : q = 2 ∨ q = 3 ∨ q = 4 ∨ q = 5 := by omega
      rcases this with rfl | rfl | rfl | rfl <;> decide
    have := List.all_eq_true.1 spl_q q hq
    simpa using this
  have hq2 : q * q ≤ 5 * 5 := Nat.mul_le_mul h5 h5
  obtain ⟨M, hM⟩ : ∃ M, M = q * q := ⟨_, rfl⟩
  have hqc : (q : Int) * q = (M : Int) := by rw [hM]; push_cast; rfl
  rw [← hM] at hpl ⊢
  obtain ⟨N, hN⟩ : ∃ N, N = M + q + 1 := ⟨_, rfl⟩
  rw [← hN] at hpl ⊢
  have hNb : M + q + 1 ≤ 31 := by omega
  rw [show prjL q (qP q) (qK q) (qF q) = prjQ q from rfl] at hpl
  clear hq2 hN hmk hpq hm hM
  generalize srtR (prjQ q) = L at *
  generalize splS (q : Int) = sp at *
  go_enter Tryz.func76, Tryz.ntmps76
  go_wp2_with fail
  generalize w.alloc (.cells #[.int .i64 0, .slice none 0 0] 28) = W0 at *
  refine hsp.mono ?_
  rintro e w1 ⟨sk, rfl, rfl⟩
  clear hsp
  go_wp2_with fail
  refine hpl.mono ?_
  rintro e w5 ⟨A5, n5, c5, rfl, ⟨vs, ho5⟩, hb5⟩
  have Y6 := Y.after hb5
  have hw5 := hb0.trans (hb5.mono (by omega))
  obtain ⟨y0, y1⟩ := Y6.cells2
  have f0 := Y6.frozen 0
  have f1 := Y6.frozen 1
  obtain ⟨q0, q1, q2, q3⟩ := fin_storeB (v := (N : Int)) Y6 hw5 ho5 (by omega)
  have Q := Lib.hid (And.intro q0 q1)
  clear q0 q1 hpl hb5 ho5 Y6 hw5
  go_wp2
  exact bodyPost_ret (v := .tuple #[.agg #[.int .i64 (N : Int), .slice A5 n5 c5], .int .i64 0]) (by simp [results, Tryz.results76, go_sem, q2, q3]) rfl ⟨A5, n5, c5, rfl, ⟨_, Q.out.1⟩, Q.out.2⟩
set_option maxRecDepth 100000 in
set_option maxHeartbeats 2000000 in
theorem specPaleySet_yes (v : Nat) (w : World) (v3 : 3 ≤ v) (v32 : v ≤ 32) (hp : isP v = true) (h4 : v % 4 = 3) :
    Calls Tryz.prog 77 #[.int .i64 v] w (RetIC w 2 (sqrS v (v - 1)) 0) := by
  have hin := l00In_any v 3 32 w
  rw [inB_mk ⟨by omega, by omega⟩] at hin
  have hpr := spec_IsPrime v w
  rw [hp] at hpr
  have e4 : (v : Int).tmod 4 = 3 := by rw [Int.tmod_eq_emod_of_nonneg (by omega)]; omega
  have hb0 := below_alloc w (.cells #[] 2)
  have ho0 := OI.lit0 w 2
  go_enter Tryz.func77, Tryz.ntmps77
  go_wp2_with fail
  refine hin.mono ?_
  rintro e w1 ⟨rfl, rfl⟩
  clear hin
  go_wp2_with fail
  refine hpr.mono ?_
  rintro e w1 ⟨rfl, rfl⟩
  clear hpr
  go_wp2
  generalize w.alloc (.cells #[] 2) = W0 at *
  go_loopw [4, 5] (fun ov xv wr => ∃ (x : Nat) (A : Option Addr) (n c : Nat), x + 1 ≤ v ∧ xv = .int .i64 ((x + 1 : Nat) : Int) ∧ ov = .slice A n c ∧ OI wr w.heap.size 2 A n c (sqrS v x) ∧ Below w.heap.size w wr) (fun _ xv _ => v - (intOf xv).toNat)
  case atStart => exact ⟨0, _, 0, 0, by omega, rfl, rfl, ho0, hb0⟩
  case round =>
    clear ho0 hb0
    obtain ⟨x, A, n, c, hx, rfl, rfl, ho, hb⟩ := hrel
    by_cases hlt : x + 1 < v
    · have hnl := ho.len
      have hsl := sqrS_len v x
      have hxx1 : ((x + 1 : Nat) : Int) * ((x + 1 : Nat) : Int) = (((x + 1) * (x + 1) : Nat) : Int) := by push_cast; rfl
      have hxx2 : (x + 1) * (x + 1) ≤ 32 * 32 := Nat.mul_le_mul (by omega) (by omega)
      have hxx3 : (((x + 1) * (x + 1) : Nat) : Int).tmod (v : Int) = (((x + 1) * (x + 1) % v : Nat) : Int) := by rw [Int.tmod_eq_emod_of_nonneg (by omega), Int.natCast_emod]
      have hv0 : ¬ v = 0 := by omega
      have hm : (x + 1) * (x + 1) % v < v := Nat.mod_lt _ (by omega)
      have hpu := l00Put_any A n c _ (((x + 1) * (x + 1) % v : Nat) : Int) wr ho.reads (by omega) ⟨by omega, by omega⟩
      have HS : Hid (sqrS v (x + 1) = putG sgnI (sqrS v x) (((x + 1) * (x + 1) % v : Nat) : Int)) := Lib.hid rfl
      rw [← HS.out] at hpu
      clear HS hsl hnl
      have hxc : ((x + 1 : Nat) : Int) = (x : Int) + 1 := by push_cast; rfl
      rw [hxc] at hxx1
      generalize (x + 1) * (x + 1) % v = z at *
      generalize (x + 1) * (x + 1) = M at *
      have hbz := hb.size
      go_wp2_with fail
      refine hpu.mono ?_
      rintro e w2 ⟨A2, n2, c2, rfl, ho2, hb2⟩
      have ho3 := ho2.more hbz
      have hb3 := hb.trans (hb2.mono hbz)
      clear hpu ho2 hb2 ho hb hxx1 hxx3
      go_wp2
      exact ⟨⟨x + 1, A2, n2, c2, by omega, by go_num, rfl, ho3, hb3⟩, by simp only [intOf]; omega⟩
    · have hx1 : x = v - 1 := by omega
      rw [hx1] at ho
      clear hx1
      go_wp2
      go_ret2
      exact ⟨_, _, _, rfl, ho, hb⟩
theorem specPaleySet_no (v : Nat) (w : World) (v3 : 3 ≤ v) (v32 : v ≤ 32) (h : isP v = false ∨ v % 4 ≠ 3) :
    Calls Tryz.prog 77 #[.int .i64 v] w (RetIC w 2 [] 2) := by
  have hin := l00In_any v 3 32 w
  rw [inB_mk ⟨by omega, by omega⟩] at hin
  have hpr := spec_IsPrime v w
  cases hp : isP v with
  | false =>
    rw [hp] at hpr
    go_enter Tryz.func77, Tryz.ntmps77
    go_wp2_with fail
    refine hin.mono ?_
    rintro e w1 ⟨rfl, rfl⟩
    clear hin
    go_wp2_with fail
    refine hpr.mono ?_
    rintro e w1 ⟨rfl, rfl⟩
    clear hpr
    go_wp2
    go_ret2
    exact ⟨_, _, _, rfl, OI.nil_ _ _ _, Below.refl _ _⟩
  | true =>
    rw [hp] at hpr
    have e4 : ((v : Int) % 4 != 3) = true := by
      rcases h with h | h
      · rw [hp] at h; cases h
      · simp; omega
    go_enter Tryz.func77, Tryz.ntmps77
    go_wp2_with fail
    refine hin.mono ?_
    rintro e w1 ⟨rfl, rfl⟩
    clear hin
    go_wp2_with fail
    refine hpr.mono ?_
    rintro e w1 ⟨rfl, rfl⟩
    clear hpr
    go_wp2
    go_ret2
    exact ⟨_, _, _, rfl, OI.nil_ _ _ _, Below.refl _ _⟩
set_option maxRecDepth 100000 in
set_option maxHeartbeats 2000000 in
theorem l13Set_yes (v : Nat) (A : Option Addr) (n c : Nat) (s : List Int) (w : World) (hr : RI w A n s) (v1 : 1 ≤ v) (v32 : v ≤ 32) (hn : n ≤ 1000) (hs : Rises s 0 ((v : Int) - 1)) :
    Calls Tryz.prog 167 #[.int .i64 v, .slice A n c] w (Quiet w (.bool true)) := by
  have hin := l00In_any v 1 32 w
  rw [inB_mk ⟨by omega, by omega⟩] at hin
  have hri := l00Rises_any A n c s 0 ((v : Int) - 1) w hr (by omega)
  rw [tB_yes hs] at hri
  clear hs
  go_enter Tryz.func167, Tryz.ntmps167
  go_wp2_with fail
  refine hin.mono ?_
  rintro e w1 ⟨rfl, rfl⟩
  clear hin
  go_wp2_with fail
  refine hri.mono ?_
  rintro e w1 ⟨rfl, hd⟩
  clear hri
  go_wp2
  go_ret
  exact ⟨rfl, hd⟩
set_option maxRecDepth 100000 in
set_option maxHeartbeats 2000000 in
theorem l13Ok_one (v : Nat) (A : Option Addr) (c : Nat) (s : List Int) (w : World) (hr : RR w A 1 [s]) (v1 : 1 ≤ v) (v32 : v ≤ 32) (h0 : 0 < s.length) (hn : s.length ≤ 32) (hs : Rises s 0 ((v : Int) - 1)) :
    Calls Tryz.prog 127 #[.int .i64 v, .slice A 1 c] w (fun e w' => e = .returned (.bool true) ∧ Below w.heap.size w w') := by
  obtain ⟨ad, S, m, sc, rfl, cs, hm1, hm2, hri⟩ := hr.get (k := 0) (by omega)
  have cs : w.cell? ad = some (.slice S m sc) := cs
  have hri : RI w S m s := hri
  have hml := hri.len
  have HSE := Lib.hid (fun (W : World) (h : Below w.heap.size w W) => l13Set_yes v S m sc s W (hri.keep h) v1 v32 (by omega) hs)
  have HIN := Lib.hid (fun (W : World) => by
    have hin := l00In_any v 1 32 W
    rw [inB_mk ⟨by omega, by omega⟩] at hin
    exact hin)
  have hm0 : ((m : Int) == 0) = false := by simp; omega
  clear hs
  go_enter Tryz.func127, Tryz.ntmps127
  go_wp2
  go_loopw [5] (fun iv wr => ∃ (i : Nat), i ≤ 1 ∧ iv = .int .i64 i ∧ Below w.heap.size w wr) (fun iv _ => 1 - (intOf iv).toNat)
  case atStart => exact ⟨0, by omega, rfl, Below.refl _ _⟩
  case round =>
    obtain ⟨i, hi, rfl, hb⟩ := hrel
    have hi2 : i = 0 ∨ i = 1 := by omega
    rcases hi2 with rfl | rfl
    · have c1 : wr.cell? ad = some (.slice S m sc) := below_cell hb cs
      have hse := HSE.out wr hb
      clear HSE
      go_wp2_with fail
      refine hse.mono ?_
      rintro e w1 ⟨rfl, hd⟩
      have hb1 := hb.trans (hd.below.mono hb.size)
      have c2 : w1.cell? ad = some (.slice S m sc) := below_cell hb1 cs
      clear hse c1
      go_wp2
      exact ⟨⟨1, by omega, by go_num, hb1⟩, by simp [intOf]⟩
    · have hin := HIN.out wr
      go_wp2_with fail
      refine hin.mono ?_
      rintro e w1 ⟨rfl, rfl⟩
      clear hin
      go_wp2
      go_ret
      exact ⟨rfl, hb⟩
set_option maxRecDepth 100000 in
set_option maxHeartbeats 2000000 in
theorem l13Move_any (v : Nat) (A : Option Addr) (n c : Nat) (s : List Int) (b : Nat) (w : World) (hr : RI w A n s) (v1 : 1 ≤ v) (v32 : v ≤ 32) (hn : n ≤ 1000) (hb32 : b ≤ 32) (hs : ∀ i, i < s.length → 0 ≤ nth s i ∧ nth s i ≤ 1000) :
    Calls Tryz.prog 128 #[.int .i64 v, .slice A n c, .int .i64 1, .int .i64 b] w (RetI w 2 (movS v s b s.length)) := by
  have HS := Lib.hid hs
  have hla := hr.len
  have HLA := Lib.hid hla
  have hb0 := below_alloc w (.cells #[] 2)
  have ho0 := OI.lit0 w 2
  clear hs
  go_enter Tryz.func128, Tryz.ntmps128
  go_wp2
  generalize w.alloc (.cells #[] 2) = W0 at *
  clear hla
  go_loopw [9, 10] (fun ov iv wr => ∃ (i : Nat) (B : Option Addr) (k cc : Nat), i ≤ n ∧ iv = .int .i64 i ∧ ov = .slice B k cc ∧ OI wr w.heap.size 2 B k cc (movS v s b i) ∧ Below w.heap.size w wr) (fun _ iv _ => n - (intOf iv).toNat)
  case atStart => exact ⟨0, _, 0, 0, by omega, rfl, rfl, ho0, hb0⟩
  case round =>
    clear ho0 hb0
    obtain ⟨i, B, k, cc, hi, rfl, rfl, ho, hb⟩ := hrel
    by_cases hlt : i < n
    · obtain ⟨ad, rfl, cx⟩ := (hr.keep hb).get hlt
      obtain ⟨x0, x1⟩ := HS.out i (by rw [HLA.out]; exact hlt)
      have hnl := ho.len
      have hsl := movS_len v s b i
      have HM : Hid (movS v s b (i + 1) = putG sgnI (movS v s b i) ((nth s i * 1 + (b : Int)) % (v : Int))) := Lib.hid rfl
      obtain ⟨z, hz⟩ : ∃ z, z = (nth s i * 1 + (b : Int)) % (v : Int) := ⟨_, rfl⟩
      rw [← hz] at HM
      have hz0 : 0 ≤ z := by rw [hz]; exact Int.emod_nonneg _ (by omega)
      have hz1 : z < v := by rw [hz]; exact Int.emod_lt_of_pos _ (by omega)
      have ht : (nth s i + (b : Int)).tmod (v : Int) = z := by rw [Int.tmod_eq_emod_of_nonneg (by omega), hz, Int.mul_one]
      have hv0 : ¬ v = 0 := by omega
      have hpu := l00Put_any B k cc _ z wr ho.reads (by omega) ⟨by omega, by omega⟩
      rw [← HM.out] at hpu
      clear hz HM hnl hsl
      generalize nth s i = x at *
      have hbz := hb.size
      go_wp2_with fail
      refine hpu.mono ?_
      rintro e w2 ⟨A2, n2, c2, rfl, ho2, hb2⟩
      have ho3 := ho2.more hbz
      have hb3 := hb.trans (hb2.mono hbz)
      clear hpu ho2 hb2 ho hb
      go_wp2
      exact ⟨⟨i + 1, A2, n2, c2, by omega, by go_num, rfl, ho3, hb3⟩, by simp only [intOf]; omega⟩
    · obtain rfl : i = n := by omega
      rw [← HLA.out] at ho
      go_wp2
      go_ret
      exact ⟨_, _, _, rfl, ho, hb⟩
set_option maxRecDepth 100000 in
set_option maxHeartbeats 4000000 in
theorem specDevelop_any (v : Nat) (A : Option Addr) (c : Nat) (s : List Int) (w : World) (hr : RR w A 1 [s]) (v1 : 1 ≤ v) (v32 : v ≤ 32) (h0 : 0 < s.length) (hn : s.length ≤ 32) (hs : Rises s 0 ((v : Int) - 1)) (hB : ∀ r ∈ devS v s v, Block r (v : Int)) :
    Calls Tryz.prog 78 #[.int .i64 v, .slice A 1 c] w (RetW w v (srtR (devS v s v)) 0) := by
  have hb0 := below_alloc w (.cells #[.int .i64 0, .slice none 0 0] 28)
  have Y := Blk.new w 28 #[.int .i64 0, .slice none 0 0]
  have hz0 : (w.alloc (.cells #[.int .i64 0, .slice none 0 0] 28)).heap.size = w.heap.size + 1 := by simp
  have hok := l13Ok_one v A c s (w.alloc (.cells #[.int .i64 0, .slice none 0 0] 28)) (hr.keep hb0) v1 v32 h0 hn hs
  have HBD := Lib.hid (fun i (hi : i < s.length) => show 0 ≤ nth s i ∧ nth s i ≤ 1000 from by have := hs.bd i hi; omega)
  have HB := Lib.hid hB
  clear hs hB
  go_enter Tryz.func78, Tryz.ntmps78
  go_wp2_with fail
  generalize w.alloc (.cells #[.int .i64 0, .slice none 0 0] 28) = W0 at *
  refine hok.mono ?_
  rintro e w1 ⟨rfl, hb1⟩
  have Y1 := Y.after hb1
  have hw1 := hb0.trans (hb1.mono hb0.size)
  have hs1 : w.heap.size + 1 ≤ w1.heap.size := by have := hb1.size; omega
  have hr1 := hr.keep hw1
  clear hok hb0 hb1 Y hr
  obtain ⟨ad, S, m, sc, rfl, cs, hm1, hm2, hri⟩ := hr1.get (k := 0) (by omega)
  have cs : w1.cell? ad = some (.slice S m sc) := cs
  have hri : RI w1 S m s := hri
  have hml := hri.len
  have G0 := Grw.start w1 w1 (Below.refl _ _)
  have HMV := Lib.hid (fun (b : Nat) (W : World) (h : Below w1.heap.size w1 W) (hb : b ≤ 32) => l13Move_any v S m sc s b W (hri.keep h) v1 v32 (by omega) hb HBD.out)
  go_wp2
  clear hml
  go_loopw [6, 7] (fun ov iv wr => ∃ (i : Nat) (B : Option Addr) (k bc : Nat), ((iv = .int .i64 0 ∧ k = 0) ∨ (iv = .int .i64 1 ∧ k = v)) ∧ ov = .slice B k bc ∧ Grw w1 wr B k bc (devS v s k)) (fun _ iv _ => 1 - (intOf iv).toNat)
  case atStart => exact ⟨0, _, 0, 0, .inl ⟨rfl, rfl⟩, rfl, G0⟩
  case round =>
    clear G0
    obtain ⟨-, B, k, bc, hqk, rfl, G⟩ := hrel
    rcases hqk with ⟨rfl, rfl⟩ | ⟨rfl, rfl⟩
    · go_wp2
      go_loopw [6, 8] (fun ov bv wr => ∃ (k : Nat) (B : Option Addr) (bc : Nat), k ≤ v ∧ bv = .int .i64 k ∧ ov = .slice B k bc ∧ Grw w1 wr B k bc (devS v s k)) (fun _ bv _ => v - (intOf bv).toNat)
      case atStart => exact ⟨0, B, bc, Nat.zero_le _, rfl, rfl, G⟩
      case round =>
        clear G
        obtain ⟨k, B, bc, hk, rfl, rfl, G⟩ := hrel
        by_cases hlt : k < v
        · have c1 : wr.cell? ad = some (.slice S m sc) := below_cell G.2 cs
          have hmv := HMV.out k wr G.2 (by omega)
          go_wp2_with fail
          refine hmv.mono ?_
          rintro e w2 ⟨A2, n2, c2, rfl, ho2, hb2⟩
          obtain ⟨vs, G⟩ := G.row ho2 hb2
          have hlw := G.b.size
          clear hmv ho2 hb2 c1
          have HST := Lib.hid (devS_step v s k)
          generalize movS v s k s.length = r at *
          go_wp2_with (at_builtin; refine app_row _ rfl _ _ rfl w1.heap.size B k bc vs _ rfl G.o (A2, n2, c2) _ G.r G.ap _ rfl (by simp) (by omega) hlw ?_; intro A3 c3 w3 ho3 hg3 hf3)
          have G := G.done ho3 hg3
          clear ho3 hg3 hf3
          exact ⟨⟨k + 1, A3, c3, by omega, by go_num, rfl, by rw [HST.out]; exact G⟩, by simp only [intOf]; omega⟩
        · obtain rfl : k = v := by omega
          go_wp2
          exact ⟨⟨1, B, k, bc, .inr ⟨by go_num, rfl⟩, rfl, G⟩, by simp [intOf]⟩
    · have hmk := l10Make_ok (k : Int) B k bc (devS k s k) wr (OR.reads G.1) (by omega) (by omega) (by omega) (fun i hi => HB.out _ (by rw [row_get (by rw [devS_len]; exact hi)]; exact List.getElem_mem _))
      have Y5 := Y1.below G.2 (by omega)
      have hwr := hw1.trans (G.2.mono hw1.size)
      have hDr : w.heap.size + 1 ≤ wr.heap.size := by have := G.2.size; omega
      clear HMV HBD HB G
      go_wp2_with fail
      refine hmk.mono ?_
      rintro e w5 ⟨A5, n5, c5, rfl, ⟨vs5, ho5⟩, hb5⟩
      have Y6 := Y5.after hb5
      have hw5 := hwr.trans (hb5.mono hwr.size)
      obtain ⟨y0, y1⟩ := Y6.cells2
      have f0 := Y6.frozen 0
      have f1 := Y6.frozen 1
      obtain ⟨q0, q1, q2, q3⟩ := fin_storeB (v := (k : Int)) Y6 hw5 ho5 hDr
      have Q := Lib.hid (And.intro q0 q1)
      clear q0 q1 hmk ho5 hb5 Y1 Y5 Y6 hw5 hwr
      go_wp2
      exact bodyPost_ret (v := .tuple #[.agg #[.int .i64 (k : Int), .slice A5 n5 c5], .int .i64 0]) (by simp [results, Tryz.results78, go_sem, q2, q3]) rfl ⟨A5, n5, c5, rfl, ⟨_, Q.out.1⟩, Q.out.2⟩
end Go.Proofs.YtnmcmologlgccaaGreat
