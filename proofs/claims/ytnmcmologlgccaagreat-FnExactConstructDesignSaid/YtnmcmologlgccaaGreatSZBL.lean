/- Designs that are constructed: the reference's side. No condition beyond those stated. -/
import Derived.Test.YtnmcmologlgccaaGreatSZBK
import Derived.ProofKit
import Derived.OpenShut
import Derived.Lib.SmallJoins
import Derived.Deep.Matrix
set_option linter.unusedVariables false
set_option linter.unusedSimpArgs false
namespace Go.Proofs.YtnmcmologlgccaaGreat
open Go.RowKit
/-! each block m times -/
def copB (bs : List (List Int)) (m : Nat) : List (List Int) := bs.flatMap fun b => List.replicate m b
theorem repB_cons (b : List Int) (bs : List (List Int)) (m : Nat) : (repB (b :: bs) m).Perm (List.replicate m b ++ repB bs m) := by
  induction m with
  | zero => exact List.Perm.refl _
  | succ m ih =>
    show (repB (b :: bs) m ++ (b :: bs)).Perm (List.replicate (m + 1) b ++ (repB bs m ++ bs))
    refine (ih.append_right _).trans ?_
    rw [List.replicate_succ, List.cons_append]
    refine List.perm_middle.trans (List.Perm.cons _ ?_)
    rw [List.append_assoc]
theorem copB_perm (bs : List (List Int)) (m : Nat) : (copB bs m).Perm (repB bs m) := by
  induction bs with
  | nil =>
    have : repB [] m = [] := by
      induction m with
      | zero => rfl
      | succ m ih => show repB [] m ++ [] = []; rw [ih]; rfl
    rw [this]
    exact List.Perm.refl _
  | cons b bs ih => exact (ih.append_left _).trans (repB_cons b bs m).symm
theorem copB_len (bs : List (List Int)) (m : Nat) : (copB bs m).length = m * bs.length := by rw [(copB_perm bs m).length_eq, repB_len]
theorem copB_srt {v : Int} {bs : List (List Int)} (h : Design v bs) (m : Nat) : copB bs m = srtR (repB bs m) := by
  refine srtR_unique (copB_perm bs m) ?_
  have hs : bs.Pairwise fun a b => cmpL a b ≤ 0 := by
    have key : ∀ (n i j : Nat), i < j → j = i + n → j < bs.length → cmpL (row bs i) (row bs j) ≤ 0 := by
      intro n
      induction n with
      | zero => intro i j h1 h2 _; omega
      | succ n ih =>
        intro i j h1 h2 h3
        by_cases hn : n = 0
        · subst hn; subst h2; exact h.ord i h3
        · have e1 := ih i (i + n) (by omega) rfl (by omega)
          have e2 := h.ord (i + n) (by omega)
          rw [h2]
          exact cmpL_trans e1 e2
    rw [List.pairwise_iff_getElem]
    intro i j hi hj hij
    have := key (j - i) i j hij (by omega) hj
    rwa [row_get hi, row_get hj] at this
  have hp : (copB bs m).Pairwise fun a b => cmpL a b ≤ 0 := by
    unfold copB
    clear h
    induction bs with
    | nil => exact List.Pairwise.nil
    | cons b bs ih =>
      obtain ⟨h1, h2⟩ := List.pairwise_cons.1 hs
      rw [List.flatMap_cons, List.pairwise_append]
      refine ⟨?_, ih h2, fun x hx y hy => ?_⟩
      · rw [List.pairwise_replicate]
        exact .inr (by rw [cmpL_refl]; omega)
      · obtain ⟨b', hb', hy⟩ := List.mem_flatMap.1 hy
        rw [List.eq_of_mem_replicate hx, List.eq_of_mem_replicate hy]
        exact h1 b' hb'
  exact hp
def copX (bs : List (List Int)) (m i : Nat) : List (List Int) := (bs.drop i).flatMap fun b => List.replicate m b
theorem copX_step {bs : List (List Int)} {m i : Nat} (h : i < bs.length) : copX bs m i = List.replicate m (row bs i) ++ copX bs m (i + 1) := by
  unfold copX
  rw [List.drop_eq_getElem_cons h, List.flatMap_cons, row_get h]
theorem copX_end {bs : List (List Int)} {m i : Nat} (h : bs.length ≤ i) : copX bs m i = [] := by
  unfold copX
  rw [List.drop_eq_nil_of_le h]; rfl
def RetWC (w : World) (v : Int) (bs : List (List Int)) (con code : Int) (e : Ending) (w' : World) : Prop := ∃ A n c, e = .returned (.tuple #[.agg #[.int .i64 v, .slice A n c], .int .i64 con, .int .i64 code]) ∧ (∃ vs, OB w' w.heap.size A n c vs bs) ∧ Below w.heap.size w w'
def RetWCO (w : World) (v : Nat) (o : Option (Nat × List (List Int))) (e : Ending) (w' : World) : Prop :=
  match o with
  | some (c, bs) => RetWC w v bs c 0 e w'
  | none => RetWC w 0 [] 0 3 e w'
set_option maxRecDepth 100000 in
set_option maxHeartbeats 8000000 in
theorem specConstructDesign_out (v k l : Int) (w : World) (h : inRng v k l = false ∨ 32 < v) (h64 : I64 v ∧ I64 k ∧ I64 l) :
    Calls Tryz.prog 12 #[.int .i64 v, .int .i64 k, .int .i64 l] w (RetWC w 0 [] 0 2) := by
  have hb0 := below_alloc w (.cells #[.int .i64 0, .slice none 0 0] 28)
  have Y := Blk.new w 28 #[.int .i64 0, .slice none 0 0]
  have hz0 : (w.alloc (.cells #[.int .i64 0, .slice none 0 0] 28)).heap.size = w.heap.size + 1 := by simp
  have hi := l29Range_any v k l (w.alloc (.cells #[.int .i64 0, .slice none 0 0] 28))
  obtain ⟨y0, y1⟩ := Y.cells2
  have f0 := Y.frozen 0
  have f1 := Y.frozen 1
  clear Y hz0
  cases hr : inRng v k l with
  | false =>
    rw [hr] at hi
    clear h hr
    go_enter Tryz.func12, Tryz.ntmps12
    go_wp2_with fail
    refine hi.mono ?_
    rintro e w' ⟨rfl, rfl⟩
    go_wp2
    exact bodyPost_ret (v := .tuple #[.agg #[.int .i64 0, .slice none 0 0], .int .i64 0, .int .i64 2]) (by simp [results, Tryz.results12, go_sem, y0, y1]) rfl ⟨none, 0, 0, rfl, ⟨_, OB.nilW _ _⟩, hb0⟩
  | true =>
    rw [hr] at hi
    have h32 : 32 < v := by
      rcases h with h | h
      · rw [hr] at h; cases h
      · exact h
    clear h hr
    go_enter Tryz.func12, Tryz.ntmps12
    go_wp2_with fail
    refine hi.mono ?_
    rintro e w' ⟨rfl, rfl⟩
    go_wp2
    exact bodyPost_ret (v := .tuple #[.agg #[.int .i64 0, .slice none 0 0], .int .i64 0, .int .i64 2]) (by simp [results, Tryz.results12, go_sem, y0, y1]) rfl ⟨none, 0, 0, rfl, ⟨_, OB.nilW _ _⟩, hb0⟩
set_option maxRecDepth 100000 in
set_option maxHeartbeats 8000000 in
theorem specConstructDesign_some (v k l : Nat) (w : World) (hr : InR v k l) (c : Nat) (bs : List (List Int)) (hfo : smpD v k l = some (c, bs)) :
    Calls Tryz.prog 12 #[.int .i64 v, .int .i64 k, .int .i64 l] w (RetWCO w v (conD v k l)) := by
  have hb0 := below_alloc w (.cells #[.int .i64 0, .slice none 0 0] 28)
  have Y := Blk.new w 28 #[.int .i64 0, .slice none 0 0]
  have hz0 : (w.alloc (.cells #[.int .i64 0, .slice none 0 0] 28)).heap.size = w.heap.size + 1 := by simp
  have HFS := Lib.hid (fun (l' : Nat) (W : World) (hr' : InR v k l') => l29Seven_any v k l' W hr')
  have hfs := HFS.out l (w.alloc (.cells #[.int .i64 0, .slice none 0 0] 28)) hr
  have hi := l29Range_any v k l (w.alloc (.cells #[.int .i64 0, .slice none 0 0] 28))
  rw [inRng_in hr] at hi
  have HR := Lib.hid hr
  obtain ⟨v3, v32, k2, kv, l1, l1000⟩ := id hr
  have hv32 : ¬ (32 : Int) < v := by omega
  rw [hfo] at hfs
  have HF := Lib.hid (show conD v k l = some (c, bs) by unfold conD; rw [hfo])
  have hc := (smp_ok hr hfo).2.2
  have hc0 : (0 : Int) < c := by omega
  clear hfo hc hr HFS
  go_enter Tryz.func12, Tryz.ntmps12
  go_wp2_with fail
  refine hi.mono ?_
  rintro e w' ⟨rfl, rfl⟩
  go_wp2_with fail
  refine hfs.mono ?_
  rintro e w5 ⟨A5, n5, c5, rfl, ⟨vs5, ho5⟩, hb5⟩
  have Y6 := (Y.after hb5).alloc (.cells #[.int .i64 (v : Int), .slice A5 n5 c5] 28)
  have Z6 := Blk.new w5 28 #[.int .i64 (v : Int), .slice A5 n5 c5]
  have hw5 := hb0.trans (hb5.mono hb0.size)
  have hw6 := hw5.alloc hw5.size (.cells #[.int .i64 (v : Int), .slice A5 n5 c5] 28)
  have ho6 := ho5.below (below_alloc w5 (.cells #[.int .i64 (v : Int), .slice A5 n5 c5] 28))
  obtain ⟨y0, y1⟩ := Y6.cells2
  obtain ⟨z0, z1⟩ := Z6.cells2
  have f0 := Y6.frozen 0
  have f1 := Y6.frozen 1
  obtain ⟨q0, q1, q2, q3⟩ := fin_storeB (v := (v : Int)) Y6 hw6 ho6 (by omega)
  have Q := Lib.hid (And.intro q0 q1)
  clear q0 q1 hfs hi ho5 hb5 Y Y6 Z6 hw5 hw6 ho6
  go_wp2
  refine bodyPost_ret (v := .tuple #[.agg #[.int .i64 (v : Int), .slice A5 n5 c5], .int .i64 c, .int .i64 0]) (by simp [results, Tryz.results12, go_sem, q2, q3]) rfl ?_
  rw [HF.out]
  exact ⟨A5, n5, c5, rfl, ⟨_, Q.out.1⟩, Q.out.2⟩
set_option maxRecDepth 100000 in
set_option maxHeartbeats 8000000 in
theorem specConstructDesign_none (v k l : Nat) (w : World) (hr : InR v k l) (hfo : smpD v k l = none) :
    Calls Tryz.prog 12 #[.int .i64 v, .int .i64 k, .int .i64 l] w (RetWCO w v (conD v k l)) := by
  have hb0 := below_alloc w (.cells #[.int .i64 0, .slice none 0 0] 28)
  have Y := Blk.new w 28 #[.int .i64 0, .slice none 0 0]
  have hz0 : (w.alloc (.cells #[.int .i64 0, .slice none 0 0] 28)).heap.size = w.heap.size + 1 := by simp
  have HFS := Lib.hid (fun (l' : Nat) (W : World) (hr' : InR v k l') => l29Seven_any v k l' W hr')
  have hfs := HFS.out l (w.alloc (.cells #[.int .i64 0, .slice none 0 0] 28)) hr
  have hi := l29Range_any v k l (w.alloc (.cells #[.int .i64 0, .slice none 0 0] 28))
  rw [inRng_in hr] at hi
  have HR := Lib.hid hr
  obtain ⟨v3, v32, k2, kv, l1, l1000⟩ := id hr
  have hv32 : ¬ (32 : Int) < v := by omega
  rw [hfo] at hfs
  have HF := Lib.hid (show conD v k l = (mulO v k l (l - 1) 2).map (fun bs => (8, bs)) by unfold conD; rw [hfo])
  clear hfo hr
  go_enter Tryz.func12, Tryz.ntmps12
  go_wp2_with fail
  refine hi.mono ?_
  rintro e w' ⟨rfl, rfl⟩
  go_wp2_with fail
  refine hfs.mono ?_
  rintro e w1 ⟨A, n, cc, rfl, -, hb1⟩
  have Y1 := (Y.after hb1).alloc (.cells #[.int .i64 0, .slice A n cc] 28)
  have X1 := Blk.new w1 28 #[.int .i64 0, .slice A n cc]
  have hw1 := (hb0.trans (hb1.mono hb0.size)).alloc (by have := hb1.size; omega) (.cells #[.int .i64 0, .slice A n cc] 28)
  have hg : w.heap.size < w1.heap.size := by have := hb1.size; omega
  have hz1 : w1.heap.size < (w1.alloc (.cells #[.int .i64 0, .slice A n cc] 28)).heap.size := by simp
  clear hfs hb0 hb1 Y hz0 hi
  go_wp2
  generalize w1.alloc (.cells #[.int .i64 0, .slice A n cc] 28) = W1 at *
  generalize w1.heap.size = gd at *
  go_loopw [11] (fun mv wr => ∃ (m : Nat) (dv : Int) (A : Option Addr) (n cc : Nat), 2 ≤ m ∧ m ≤ l + 1 ∧ mv = .int .i64 m ∧ Hid (conD v k l = (mulO v k l (l + 1 - m) m).map (fun bs => (8, bs))) ∧ Blk wr gd 28 #[.int .i64 dv, .slice A n cc] ∧ Blk wr w.heap.size 28 #[.int .i64 0, .slice none 0 0] ∧ Below w.heap.size w wr ∧ gd < wr.heap.size) (fun mv _ => l + 1 - (intOf mv).toNat)
  case atStart => exact ⟨2, 0, A, n, cc, by omega, by omega, rfl, Lib.hid (by rw [HF.out, show l + 1 - 2 = l - 1 by omega]), X1, Y1, hw1, hz1⟩
  case round =>
    clear Y1 X1 hw1 hz1
    obtain ⟨m, dv, A, n, cc, hm2, hml, rfl, HM, X, Y, hwr, hgw⟩ := hrel
    by_cases hlt : m ≤ l
    · obtain ⟨f, hf⟩ : ∃ f, l + 1 - m = f + 1 := ⟨l - m, by omega⟩
      have hf2 : l + 1 - (m + 1) = f := by omega
      have HS : Hid (conD v k l = (if l % m = 0 then (match smpD v k (l / m) with
          | some (_, bs) => if m * bs.length ≤ 128 then some (srtR (repB bs m)) else mulO v k l f (m + 1)
          | none => mulO v k l f (m + 1)) else mulO v k l f (m + 1)).map (fun bs => (8, bs))) := Lib.hid (by rw [HM.out, hf]; rfl)
      clear HM hf
      have hne : ¬ (m : Int) = 0 := by omega
      have t0 : (l : Int).tmod (m : Int) = (l : Int) % (m : Int) := Int.tmod_eq_emod_of_nonneg (by omega)
      by_cases hmod : l % m = 0
      · have t1 : ((l : Int) % (m : Int) == 0) = true := by simp; omega
        have t2 : ((l : Int) % (m : Int) != 0) = false := by simp; omega
        have e1 : (l : Int).tdiv (m : Int) = ((l / m : Nat) : Int) := by rw [Int.tdiv_eq_ediv_of_nonneg (by omega)]; rfl
        have e2 : (l : Int) / (m : Int) = ((l / m : Nat) : Int) := rfl
        have HS2 := Lib.hid (HS.out.trans (congrArg _ (if_pos hmod)))
        have hrp := HR.out.part (m := m) (by omega) hlt
        have hfs := HFS.out (l / m) wr hrp
        obtain ⟨x0, x1⟩ := X.cells2
        clear hmod HS
        cases hfo : smpD v k (l / m) with
        | none =>
          rw [hfo] at HS2 hfs
          have HM2 : Hid (conD v k l = (mulO v k l (l + 1 - (m + 1)) (m + 1)).map (fun bs => (8, bs))) := Lib.hid (by rw [hf2]; exact HS2.out)
          clear hfo HS2 hf2
          have hlm := hrp.l1000
          generalize l / m = lm at *
          go_wp2_with fail
          refine hfs.mono ?_
          rintro e w5 ⟨A5, n5, c5, rfl, ⟨vs5, ho5⟩, hb5⟩
          have hs5 := hb5.size
          have X5 := X.after hb5
          obtain ⟨ho6, hw6, Y6, X6, e6⟩ := mid_storeB (v := 0) X5 (Y.after hb5) (hwr.trans (hb5.mono hwr.size)) ho5 hg (by omega)
          clear x0 x1
          obtain ⟨x0, x1⟩ := X5.cells2
          have g0 := X5.frozen 0
          have g1 := X5.frozen 1
          have hg6 : gd < ((w5.setCell ⟨gd, 0, none⟩ (.int .i64 0)).setCell ⟨gd, 1, none⟩ (.slice A5 n5 c5)).heap.size := by rw [e6]; omega
          clear hfs hb5 ho5 ho6 X Y X5 e6
          go_wp2
          exact ⟨⟨m + 1, 0, A5, n5, c5, by omega, by omega, by go_num, HM2, X6, Y6, hw6, hg6⟩, by simp only [intOf]; omega⟩
        | some x =>
          obtain ⟨c, bs⟩ := x
          rw [hfo] at HS2 hfs
          have hsm := smp_ok hrp hfo
          have HBL := Lib.hid hsm.1
          have hc := hsm.2.2
          have hc0 : ((c : Int) == 0) = false := by simp; omega
          have hcop := copB_srt hsm.1.d m
          have HCOP := Lib.hid hcop
          have hn128 := hsm.1.d.len
          clear hfo hsm hc hcop
          have hlm := hrp.l1000
          generalize l / m = lm at *
          go_wp2_with fail
          refine hfs.mono ?_
          rintro e w5 ⟨A5, n5, c5, rfl, ⟨vs5, ho5⟩, hb5⟩
          have hs5 := hb5.size
          have hnl := ho5.reads.len
          have X5 := X.after hb5
          obtain ⟨ho6, hw6, Y6, X6, e6⟩ := mid_storeB (v := (v : Int)) X5 (Y.after hb5) (hwr.trans (hb5.mono hwr.size)) ho5 hg (by omega)
          clear x0 x1
          obtain ⟨x0, x1⟩ := X5.cells2
          have g0 := X5.frozen 0
          have g1 := X5.frozen 1
          obtain ⟨z0, z1⟩ := X6.cells2
          have hg6 : gd < ((w5.setCell ⟨gd, 0, none⟩ (.int .i64 (v : Int))).setCell ⟨gd, 1, none⟩ (.slice A5 n5 c5)).heap.size := by rw [e6]; omega
          have hr6 := ho6.reads
          have hn5 : n5 ≤ 128 := by omega
          have hm1000 : m ≤ 1000 := by omega
          have mm1 : (m : Int) * n5 ≤ 1000 * 128 := Int.mul_le_mul (by omega) (by omega) (by omega) (by omega)
          have mm0 : 0 ≤ (m : Int) * n5 := Int.mul_nonneg (by omega) (by omega)
          have E6 := Lib.hid e6
          clear hfs hb5 ho5 ho6 X Y X5 e6
          by_cases hle : m * bs.length ≤ 128
          · have hgt : ¬ (128 : Int) < (m : Int) * n5 := by
              have : ((m * n5 : Nat) : Int) ≤ 128 := by rw [hnl] at hle; omega
              push_cast at this
              omega
            have HE := Lib.hid (show conD v k l = some (8, srtR (repB bs m)) by rw [HS2.out]; show Option.map _ (if m * bs.length ≤ 128 then some (srtR (repB bs m)) else _) = _; rw [if_pos hle]; rfl)
            have HCL := Lib.hid (show (copB bs m).length ≤ 128 by rw [copB_len]; exact hle)
            have HL0 : Hid (copB bs m = [] ++ copX bs m 0) := Lib.hid rfl
            have HRB := Lib.hid (fun i (hi : i < n5) => show (row bs i).length = k from HBL.out.len i (by omega))
            have HNL := Lib.hid hnl
            clear HS2 hle hnl
            go_wp2
            generalize hV : (w5.setCell ⟨gd, 0, none⟩ (.int .i64 (v : Int))).setCell ⟨gd, 1, none⟩ (.slice A5 n5 c5) = V at *
            clear hV x0 x1 g0 g1 z0 z1
            have G0 := Grw.start V V (Below.refl _ _)
            rw [E6.out] at G0
            have HLC := Lib.hid (fun (done rest : List (List Int)) (h : copB bs m = done ++ rest) => Nat.le_trans (len_left h) HCL.out)
            rw [← HCOP.out] at HE
            generalize copB bs m = L at *
            as_aux_lemma =>
              go_loopw [12, 13] (fun ov iv wr => ∃ (i : Nat) (P : Option Addr) (pn pc : Nat) (done : List (List Int)), i ≤ n5 ∧ iv = .int .i64 i ∧ ov = .slice P pn pc ∧ Grw V wr P pn pc done ∧ Hid (L = done ++ copX bs m i)) (fun _ iv _ => n5 - (intOf iv).toNat)
              case atStart => exact ⟨0, _, 0, 0, [], Nat.zero_le _, rfl, rfl, G0, HL0⟩
              case round =>
                clear G0 HL0
                obtain ⟨i, P, pn, pc, done, hi, rfl, rfl, G, HD⟩ := hrel
                obtain ⟨z0, z1⟩ := (X6.below G.2 (by omega)).cells2
                by_cases hli : i < n5
                · have H1 : Hid (L = done ++ (List.replicate (m - 0) (row bs i) ++ copX bs m (i + 1))) := Lib.hid (by rw [HD.out, copX_step (by have := HNL.out; omega)]; rfl)
                  clear HD
                  go_wp2
                  clear z0 z1
                  go_loopw [12, 14] (fun ov tv wr => ∃ (t : Nat) (P : Option Addr) (pn pc : Nat) (done : List (List Int)), t ≤ m ∧ tv = .int .i64 t ∧ ov = .slice P pn pc ∧ Grw V wr P pn pc done ∧ Hid (L = done ++ (List.replicate (m - t) (row bs i) ++ copX bs m (i + 1)))) (fun _ tv _ => m - (intOf tv).toNat)
                  case atStart => exact ⟨0, P, pn, pc, done, Nat.zero_le _, rfl, rfl, G, H1⟩
                  case round =>
                    clear G H1
                    obtain ⟨t, P, pn, pc, done, ht, rfl, rfl, G, HD⟩ := hrel
                    by_cases hlt2 : t < m
                    · obtain ⟨z0, z1⟩ := (X6.below G.2 (by omega)).cells2
                      obtain ⟨ad, S, sn, sc, hA, cs, _, _, hri⟩ := (hr6.keep G.2).get hli
                      have hsn : sn = k := by rw [← hri.len, HRB.out i hli]
                      have how := l00Own_any S sn sc (row bs i) wr hri (by omega)
                      have H2 : Hid (L = (done ++ [row bs i]) ++ (List.replicate (m - (t + 1)) (row bs i) ++ copX bs m (i + 1))) := Lib.hid (by
                        rw [HD.out, show m - t = (m - (t + 1)) + 1 by omega, List.replicate_succ, List.append_assoc]
                        rfl)
                      have hj := HLC.out _ _ HD.out
                      rw [G.1.len] at hj
                      clear HD hri hsn
                      generalize row bs i = rb at *
                      subst hA
                      go_wp2_with fail
                      refine how.mono ?_
                      rintro e w7 ⟨A7, n7, c7, rfl, ho7, hb7⟩
                      obtain ⟨vs, G⟩ := G.row ho7 hb7
                      have hlw := G.b.size
                      clear how ho7 hb7 z0 z1 cs
                      go_wp2_with (at_builtin; refine app_row _ rfl _ _ rfl V.heap.size P pn pc vs _ rfl G.o (A7, n7, c7) rb G.r G.ap _ rfl rfl (by omega) hlw ?_; intro A8 c8 w8 ho8 hg8 hn8)
                      have G := G.done ho8 hg8
                      clear ho8 hg8 hn8
                      exact ⟨⟨t + 1, A8, pn + 1, c8, _, by omega, by go_num, rfl, G, H2⟩, by simp only [intOf]; omega⟩
                    · obtain rfl : t = m := by omega
                      have H2 : Hid (L = done ++ copX bs t (i + 1)) := Lib.hid (by rw [HD.out, Nat.sub_self]; rfl)
                      clear HD
                      go_wp2
                      exact ⟨⟨i + 1, P, pn, pc, done, by omega, by go_num, rfl, G, H2⟩, by simp only [intOf]; omega⟩
                · obtain rfl : i = n5 := by omega
                  have HDL : Hid (L = done) := Lib.hid (by rw [HD.out, copX_end (by have := HNL.out; omega), List.append_nil])
                  have Y7 := Y6.below G.2 (by have := Y6.lt; omega)
                  have hw7 := hw6.trans (G.2.mono hw6.size)
                  have hs7 : w.heap.size + 1 ≤ V.heap.size := by omega
                  obtain ⟨vs8, ho8⟩ := OB.of_orW G.1
                  rw [← HDL.out] at ho8
                  clear HD HDL G
                  obtain ⟨y0, y1⟩ := Y7.cells2
                  have f0 := Y7.frozen 0
                  have f1 := Y7.frozen 1
                  obtain ⟨q0, q1, q2, q3⟩ := fin_storeB (v := (v : Int)) Y7 hw7 ho8 hs7
                  have Q := Lib.hid (And.intro q0 q1)
                  clear q0 q1 Y7 hw7 ho8 Y6 X6 hw6 hr6
                  go_wp2
                  refine bodyPost_ret (v := .tuple #[.agg #[.int .i64 (v : Int), .slice P pn pc], .int .i64 8, .int .i64 0]) (by simp [results, Tryz.results12, go_sem, q2, q3]) rfl ?_
                  rw [HE.out]
                  exact ⟨P, pn, pc, rfl, ⟨_, Q.out.1⟩, Q.out.2⟩
          · have hgt : (128 : Int) < (m : Int) * n5 := by
              have : (128 : Int) < ((m * n5 : Nat) : Int) := by rw [hnl] at hle; omega
              push_cast at this
              omega
            have HM2 : Hid (conD v k l = (mulO v k l (l + 1 - (m + 1)) (m + 1)).map (fun bs => (8, bs))) := Lib.hid (by rw [hf2, HS2.out]; show Option.map _ (if m * bs.length ≤ 128 then some (srtR (repB bs m)) else _) = _; rw [if_neg hle])
            clear HS2 hle hf2 hnl HBL HCOP
            go_wp2
            exact ⟨⟨m + 1, (v : Int), A5, n5, c5, by omega, by omega, by go_num, HM2, X6, Y6, hw6, hg6⟩, by simp only [intOf]; omega⟩
      · have t1 : ((l : Int) % (m : Int) == 0) = false := by simp; omega
        have t2 : ((l : Int) % (m : Int) != 0) = true := by simp; omega
        have HM2 : Hid (conD v k l = (mulO v k l (l + 1 - (m + 1)) (m + 1)).map (fun bs => (8, bs))) := Lib.hid (by rw [hf2]; exact HS.out.trans (congrArg _ (if_neg hmod)))
        clear HS hmod hf2
        go_wp2
        exact ⟨⟨m + 1, dv, A, n, cc, by omega, by omega, by go_num, HM2, X, Y, hwr, hgw⟩, by simp only [intOf]; omega⟩
    · obtain rfl : m = l + 1 := by omega
      have HE := Lib.hid (show conD v k l = none by rw [HM.out, show l + 1 - (l + 1) = 0 by omega]; rfl)
      clear HM
      obtain ⟨y0, y1⟩ := Y.cells2
      have f0 := Y.frozen 0
      have f1 := Y.frozen 1
      obtain ⟨q0, q1, q2, q3⟩ := fin_storeB (v := 0) (A := none) (n := 0) (c := 0) (bs := []) (vs := []) Y hwr (OB.nilW _ (w.heap.size + 1)) (by omega)
      have Q := Lib.hid (And.intro q0 q1)
      clear q0 q1 X Y hwr
      go_wp2
      refine bodyPost_ret (v := .tuple #[.agg #[.int .i64 0, .slice none 0 0], .int .i64 0, .int .i64 3]) (by simp [results, Tryz.results12, go_sem, q2, q3]) rfl ?_
      rw [HE.out]
      exact ⟨none, 0, 0, rfl, ⟨_, Q.out.1⟩, Q.out.2⟩
theorem specConstructDesign_in (v k l : Nat) (w : World) (hr : InR v k l) :
    Calls Tryz.prog 12 #[.int .i64 v, .int .i64 k, .int .i64 l] w (RetWCO w v (conD v k l)) := by
  cases hfo : smpD v k l with
  | some x => exact specConstructDesign_some v k l w hr x.1 x.2 hfo
  | none => exact specConstructDesign_none v k l w hr hfo
end Go.Proofs.YtnmcmologlgccaaGreat
namespace Go.Proofs.YtnmcmologlgccaaGreat
open Go.ChangeShapes Go.WideShapes Go.ChangeAt Go.RowKit Go.Deep
section
variable {H : Type} {enc : TypeId × Value → H} {P : Program} {w : World} {fuel : Nat}
theorem open_RI {t e : TypeId} {v : Value} {x : DataW H × List MemPlace} (ht : P.underlying t = some (.slice e)) (he : P.underlying e = some (.int .i64)) (hc : P.cellsOf e = 1)
    (h : DataW.trod enc P w 0 (fun _ => true) true fuel t [v] = some x) : ∃ A n c zs, v = .slice A n c ∧ n ≤ c ∧ c ≤ 9223372036854775807 ∧ RI w A n zs := by
  rcases open_ints ht he hc h with ⟨hcs, _⟩ | ⟨a, len, cap, zs, hcs, _, hl, hm, hz, _, hcell, hwz⟩
  · simp at hcs
    exact ⟨none, 0, 0, [], hcs, by omega, by omega, RS.nil_ _ _ _⟩
  · simp at hcs hz
    refine ⟨some a, len, cap, zs.take len, hcs, hl, by unfold maxLen at hm; exact hm, ?_, fun j y hy => ?_⟩
    · rw [List.length_take]; omega
    · rw [List.getElem?_take] at hy
      split at hy
      · rename_i hj
        have hj' : j < zs.length := by omega
        have e1 : zs.getD j 0 = y := by simp [List.getD, hy]
        refine ⟨a, _, rfl, hcell j hj', by rw [e1], ?_⟩
        exact I64.of_wf (hwz y (List.mem_of_getElem? hy))
      · cases hy
theorem open_RR {t e q : TypeId} {v : Value} {x : DataW H × List MemPlace} (ht : P.underlying t = some (.slice e)) (he : P.underlying e = some (.slice q)) (hq : P.underlying q = some (.int .i64))
    (ce : P.cellsOf e = 1) (cq : P.cellsOf q = 1) (h : DataW.trod enc P w 0 (fun _ => true) true fuel t [v] = some x) :
    ∃ A n c zss, v = .slice A n c ∧ n ≤ c ∧ c ≤ 9223372036854775807 ∧ RR w A n zss := by
  rcases open_int_rows ht he hq ce cq h with ⟨hcs, _⟩ | ⟨a, len, cap, A, L, C, Z, hcs, _, hl, hm, _, hr⟩
  · simp at hcs
    exact ⟨none, 0, 0, [], hcs, by omega, by omega, RS.nil_ _ _ _⟩
  · simp at hcs
    refine ⟨some a, len, cap, (List.range len).map fun r => (Z r).take (L r), hcs, hl, by unfold maxLen at hm; exact hm, by simp, fun j y hy => ?_⟩
    have hj : j < len := by
      have := (List.getElem?_eq_some_iff.1 hy).1
      simpa using this
    have ey : (Z j).take (L j) = y := by simpa [hj] using hy
    obtain ⟨h1, h2, h3, h4, h5, h6, h7⟩ := hr j (by omega)
    refine ⟨a, _, rfl, h1, A j, L j, C j, rfl, h2, by unfold maxLen at h3; exact h3, ?_, fun i z hz => ?_⟩
    · rw [← ey, List.length_take]; omega
    · rw [← ey, List.getElem?_take] at hz
      split at hz
      · rename_i hi
        have hi' : i < C j := by omega
        cases hA : A j with
        | none => have := h6 hA; omega
        | some a' =>
          have hcell := (h7 a' hA).2 i hi'
          have e1 : (Z j).getD i 0 = z := by simp [List.getD, hz]
          exact ⟨a', _, rfl, hcell, by rw [e1], I64.of_wf (h5 z (List.mem_of_getElem? hz))⟩
      · cases hz
theorem open_RB {t e : TypeId} {v : Value} {x : DataW H × List MemPlace} (ht : P.underlying t = some (.slice e)) (he : P.underlying e = some (.int .u8)) (hc : P.cellsOf e = 1)
    (h : DataW.trod enc P w 0 (fun _ => true) true fuel t [v] = some x) : ∃ A n c zs, v = .slice A n c ∧ n ≤ c ∧ c ≤ 9223372036854775807 ∧ RS EByte w A n zs := by
  rcases open_ints ht he hc h with ⟨hcs, _⟩ | ⟨a, len, cap, zs, hcs, _, hl, hm, hz, _, hcell, hwz⟩
  · simp at hcs
    exact ⟨none, 0, 0, [], hcs, by omega, by omega, RS.nil_ _ _ _⟩
  · simp at hcs hz
    refine ⟨some a, len, cap, zs.take len, hcs, hl, by unfold maxLen at hm; exact hm, ?_, fun j y hy => ?_⟩
    · rw [List.length_take]; omega
    · rw [List.getElem?_take] at hy
      split at hy
      · rename_i hj
        have hj' : j < zs.length := by omega
        have e1 : zs.getD j 0 = y := by simp [List.getD, hy]
        refine ⟨a, _, rfl, hcell j hj', by rw [e1], ?_⟩
        exact bounds_u8 (hwz y (List.mem_of_getElem? hy))
      · cases hy
end
end Go.Proofs.YtnmcmologlgccaaGreat
namespace Go.Proofs.YtnmcmologlgccaaGreat
open Go.RowKit
set_option maxHeartbeats 400000 in
theorem eqDesign_same (v : Int) (A B : Option Addr) (n m c d : Nat) (xs : List (List Int)) (w : World) (ha : RR w A n xs) (hb : RR w B m xs) (hn : n ≤ 9223372036854775807) (hm : m ≤ 9223372036854775807) :
    Calls Tryz.prog 13 #[.agg #[.int .i64 v, .slice A n c], .agg #[.int .i64 v, .slice B m d]] w fun e w' => e = .returned (.bool true) ∧ Below w.heap.size w w' := by
  have hb2 := below_then (below_alloc w (.cells #[.int .i64 v, .slice A n c] 28)) (below_alloc (w.alloc (.cells #[.int .i64 v, .slice A n c] 28)) (.cells #[.int .i64 v, .slice B m d] 28))
  have ha' := ha.keep hb2
  have hb' := hb.keep hb2
  clear ha hb
  go_enter Tryz.func13, Tryz.ntmps13
  go_wp2_with (go_at_call 34; refine (eqInt64SS_any _ _ _ _ _ _ xs xs _ ha' hb' hn hm).mono ?_; rintro e w1 ⟨rfl, hd1⟩; rw [show decide (xs = xs) = true from by simp])
  go_ret
  exact ⟨rfl, hb2.trans (hd1.below.mono hb2.size)⟩
set_option maxHeartbeats 400000 in
theorem markDesign_any (v : Int) (B D : Nat) (A : Option Addr) (n c k : Nat) (zss : List (List Int)) (w : World) (ha : ORd w B D 36 2 A n c zss) (hc : n ≤ 1099511627776) (hn : k + cells zss ≤ 4611686018427387904) :
    Calls Tryz.prog 14 #[.agg #[.int .i64 v, .slice A n c], .int .i64 k] w fun en w' => en = .returned (.int .i64 ((k + cells zss : Nat) : Int)) ∧ ORd w' B D 36 2 A n c (marksR k zss) ∧ Mid w w' B D := by
  have hb := below_alloc w (.cells #[.int .i64 v, .slice A n c] 28)
  go_enter Tryz.func14, Tryz.ntmps14
  go_wp2_with fail
  refine (markInt64SS_any B D _ _ A n c k zss _ (ha.below hb) hc hn).mono ?_
  rintro e w1 ⟨rfl, ho, hm⟩
  go_wp2
  go_ret
  exact ⟨rfl, ho, (Mid.of_below hb (Nat.le_refl _) B D).trans hm⟩
set_option maxHeartbeats 400000 in
theorem heldDesign_any (v : Int) (A : Option Addr) (n c k : Nat) (zss : List (List Int)) (w : World) (ha : RR w A n (marksR k zss)) (hc : n ≤ 1099511627776) (hn : k + cells zss ≤ 4611686018427387904) :
    Calls Tryz.prog 15 #[.agg #[.int .i64 v, .slice A n c], .int .i64 k] w fun en w' => en = .returned (.int .i64 ((k + cells zss : Nat) : Int)) ∧ Below w.heap.size w w' := by
  have hb := below_alloc w (.cells #[.int .i64 v, .slice A n c] 28)
  go_enter Tryz.func15, Tryz.ntmps15
  go_wp2_with fail
  refine (heldInt64SS_any A n c k zss _ (ha.keep hb) hc hn).mono ?_
  rintro e w' ⟨rfl, rfl⟩
  go_wp2
  go_ret
  exact ⟨rfl, hb⟩
structure LStDesign (w w2 w' : World) (T : TypeId) (K : Int) (Z Y : List (List Int)) (g4 g7 B D : Nat) (A2 A4 : Option Addr) (n2 c2 n4 c4 : Nat) : Prop where
  bw : Below w.heap.size w w2
  b2 : Below w2.heap.size w2 w'
  r2 : RR w2 A2 n2 Z
  x4 : Blk w' g4 T #[.int .i64 K, .slice A2 n2 c2]
  x7 : Blk w' g7 T #[.int .i64 K, .slice A4 n4 c4]
  o4 : ORd w' B D 36 2 A4 n4 c4 Y
  hB : w2.heap.size ≤ B
section
variable {w w2 w' w'' : World} {T : TypeId} {K : Int} {Z Y Y' : List (List Int)} {g4 g7 B D : Nat} {A2 A4 : Option Addr} {n2 c2 n4 c4 : Nat}
theorem LStDesign.below (h : LStDesign w w2 w' T K Z Y g4 g7 B D A2 A4 n2 c2 n4 c4) : Below w.heap.size w w' := h.bw.trans (h.b2.mono h.bw.size)
theorem LStDesign.step (h : LStDesign w w2 w' T K Z Y g4 g7 B D A2 A4 n2 c2 n4 c4) (hb : Below w'.heap.size w' w'') : LStDesign w w2 w'' T K Z Y g4 g7 B D A2 A4 n2 c2 n4 c4 :=
  ⟨h.bw, h.b2.trans (hb.mono h.b2.size), h.r2, h.x4.after hb, h.x7.after hb, h.o4.below hb, h.hB⟩
theorem LStDesign.marked (h : LStDesign w w2 w' T K Z Y g4 g7 B D A2 A4 n2 c2 n4 c4) (hm : Mid w' w'' B D) (ho : ORd w'' B D 36 2 A4 n4 c4 Y') (h4 : g4 < B ∨ D ≤ g4) (h7 : g7 < B ∨ D ≤ g7) : LStDesign w w2 w'' T K Z Y' g4 g7 B D A2 A4 n2 c2 n4 c4 :=
  ⟨h.bw, h.b2.trans ((Mid.below (B := w2.heap.size) (D := D) ⟨hm.os, hm.tape, hm.output, hm.size, fun k hk hb => hm.blk k hk (hb.elim (fun h' => .inl (by have := h.hB; omega)) .inr)⟩ h.b2.size)), h.r2, h.x4.mid hm h4, h.x7.mid hm h7, ho, h.hB⟩
theorem LStDesign.cells (h : LStDesign w w2 w' T K Z Y g4 g7 B D A2 A4 n2 c2 n4 c4) :
    (w'.cell? ⟨g4, 0, none⟩ = some (.int .i64 K) ∧ w'.cell? ⟨g4, 1, none⟩ = some (.slice A2 n2 c2)) ∧
    (w'.cell? ⟨g7, 0, none⟩ = some (.int .i64 K) ∧ w'.cell? ⟨g7, 1, none⟩ = some (.slice A4 n4 c4)) := ⟨h.x4.cells2, h.x7.cells2⟩
theorem LStDesign.rd (h : LStDesign w w2 w' T K Z Y g4 g7 B D A2 A4 n2 c2 n4 c4) : RR w' A2 n2 Z := h.r2.keep h.b2
end
theorem copB_small {v k l c : Nat} {bs : List (List Int)} (hr : InR v k l) (h : conD v k l = some (c, bs)) : bs.length ≤ 1048576 ∧ cells bs ≤ 1048576 := by
  have hb := (con_ok hr h).1
  have hl := hb.d.len
  have h2 := cells_le3 (bs := bs) (fun s hs => by
    obtain ⟨i, hi, rfl⟩ := List.mem_iff_getElem.1 hs
    have := hb.len i hi
    rw [row_get hi] at this
    have := hr.kv
    have := hr.v32
    omega)
  omega
set_option maxRecDepth 100000 in
set_option maxHeartbeats 8000000 in
theorem law_ConstructDesign_ok (v k l : Int) (w : World) (V con code : Int) (Z : List (List Int)) (hz1 : Z.length ≤ 1048576) (hz2 : cells Z ≤ 1048576)
    (hspec : ∀ w, Calls Tryz.prog 12 #[.int .i64 v, .int .i64 k, .int .i64 l] w (RetWC w V Z con code))
    (himpl : ∀ w, Calls Tryz.prog 7 #[.int .i64 v, .int .i64 k, .int .i64 l] w (RetC3 w V Z con code)) :
    Calls Tryz.prog 4 #[.int .i64 v, .int .i64 k, .int .i64 l] w fun e w' => e = .returned (.bool true) ∧ Below w.heap.size w w' := by
  have HS := Lib.hid hspec
  have HI := Lib.hid himpl
  clear hspec himpl
  go_enter Tryz.func4, Tryz.ntmps4
  go_wp2_with fail
  refine (HS.out w).mono ?_
  rintro e w2 ⟨A2, n2, c2, rfl, ⟨vs2, ho2⟩, hb2⟩
  have r2 := ho2.reads
  have k2 : n2 ≤ 1048576 := by have := r2.len; omega
  have x4 := Blk.new w2 28 #[.int .i64 V, .slice A2 n2 c2]
  have b2 := below_alloc w2 (.cells #[.int .i64 V, .slice A2 n2 c2] 28)
  have e2 : (w2.alloc (.cells #[.int .i64 V, .slice A2 n2 c2] 28)).heap.size = w2.heap.size + 1 := by simp
  clear ho2
  go_wp2_with fail
  refine (HI.out _).mono ?_
  rintro e w4 ⟨A4, n4, c4, rfl, ho4, hb4⟩
  have k4 : n4 ≤ 1048576 := by have := ho4.len; omega
  have od4 := ho4.bound
  rw [e2] at od4
  have b4 := below_then b2 hb4
  have b7 := below_alloc w4 (.cells #[.int .i64 V, .slice A4 n4 c4] 28)
  have z4 := hb4.size
  rw [e2] at z4
  have L0 : LStDesign w w2 (w4.alloc (.cells #[.int .i64 V, .slice A4 n4 c4] 28)) 28 V Z Z w2.heap.size w4.heap.size (w2.heap.size + 1) w4.heap.size A2 A4 n2 c2 n4 c4 :=
    ⟨hb2, below_then b4 b7, r2, (x4.after hb4).after b7, Blk.new _ _ _, od4.below b7, by omega⟩
  clear ho4 hb4 od4 b4 x4 r2 b7 b2 e2 hb2
  obtain ⟨v1, v2⟩ := L0.cells
  go_wp2_with fail
  refine (eqDesign_same V A4 A2 n4 n2 c4 c2 Z _ L0.o4.reads L0.rd (by omega) (by omega)).mono ?_
  rintro e w9 ⟨rfl, hb9⟩
  have L5 := L0.step hb9
  clear L0 hb9 v1 v2
  obtain ⟨v1, v2⟩ := L5.cells
  go_wp2_with fail
  refine (markDesign_any V _ _ A4 n4 c4 1 Z _ L5.o4 (by omega) (by omega)).mono ?_
  rintro e w10 ⟨rfl, ho10, hm10⟩
  have L6 := L5.marked hm10 ho10 (by omega) (by omega)
  clear L5 ho10 hm10 v1 v2
  obtain ⟨v1, v2⟩ := L6.cells
  go_wp2_with fail
  refine (heldDesign_any V A4 n4 c4 1 Z _ L6.o4.reads (by omega) (by omega)).mono ?_
  rintro e w11 ⟨rfl, hb11⟩
  have L7 := L6.step hb11
  clear L6 hb11 v1 v2
  go_wp2_with fail
  refine (HI.out w11).mono ?_
  rintro e w13 ⟨A13, n13, c13, rfl, ho13, hb13⟩
  have k13 : n13 ≤ 1048576 := by have := ho13.len; omega
  have L9 := (L7.step hb13).step (below_alloc w13 (.cells #[.int .i64 V, .slice A13 n13 c13] 28))
  have X13 := (Blk.new w13 28 #[.int .i64 V, .slice A13 n13 c13]).cells2
  have r13 := ho13.reads.keep (below_alloc w13 (.cells #[.int .i64 V, .slice A13 n13 c13] 28))
  clear L7 hb13 ho13
  obtain ⟨v1, v2⟩ := L9.cells
  go_wp2_with fail
  refine (eqDesign_same V A13 A2 n13 n2 c13 c2 Z _ r13 L9.rd (by omega) (by omega)).mono ?_
  rintro e w14 ⟨rfl, hb14⟩
  have L10 := L9.step hb14
  clear L9 hb14 v1 v2 X13 r13
  obtain ⟨v1, v2⟩ := L10.cells
  go_wp2_with fail
  refine (heldDesign_any V A4 n4 c4 1 Z _ L10.o4.reads (by omega) (by omega)).mono ?_
  rintro e w15 ⟨rfl, hb15⟩
  have L11 := L10.step hb15
  clear L10 hb15 v1 v2
  go_wp2_with fail
  go_ret
  exact ⟨rfl, L11.below⟩
theorem law_ConstructDesign (v k l : Int) (w : World) (hv : I64 v) (hk : I64 k) (hl : I64 l) :
    Calls Tryz.prog 4 #[.int .i64 v, .int .i64 k, .int .i64 l] w fun e w' => e = .returned (.bool true) ∧ Below w.heap.size w w' := by
  by_cases h : inRng v k l = false ∨ 32 < v
  · exact law_ConstructDesign_ok v k l w 0 0 2 [] (by simp) (by simp [cells]) (fun w => specConstructDesign_out v k l w h ⟨hv, hk, hl⟩) (fun w => constructDesign_out v k l w h ⟨hv, hk, hl⟩)
  · have hr : inRng v k l = true := by
      cases hh : inRng v k l with
      | true => rfl
      | false => exact absurd (.inl hh) h
    have h32 : v ≤ 32 := by
      by_cases h2 : 32 < v
      · exact absurd (.inr h2) h
      · omega
    obtain ⟨a1, a2, a3, a4, a5, a6⟩ := inRng_true hr
    obtain ⟨V, rfl⟩ : ∃ V : Nat, v = (V : Int) := ⟨v.toNat, by omega⟩
    obtain ⟨K, rfl⟩ : ∃ K : Nat, k = (K : Int) := ⟨k.toNat, by omega⟩
    obtain ⟨L, rfl⟩ : ∃ L : Nat, l = (L : Int) := ⟨l.toNat, by omega⟩
    have hin := inRng_of hr (by omega)
    have hs := fun w => specConstructDesign_in V K L w hin
    have hc := fun w => constructDesign_in simpOk V K L w hin
    cases ho : conD V K L with
    | none =>
      rw [ho] at hs hc
      exact law_ConstructDesign_ok V K L w 0 0 3 [] (by simp) (by simp [cells]) hs hc
    | some x =>
      obtain ⟨c, bs⟩ := x
      rw [ho] at hs hc
      obtain ⟨h1, h2⟩ := copB_small hin ho
      exact law_ConstructDesign_ok V K L w V c 0 bs h1 h2 hs hc
end Go.Proofs.YtnmcmologlgccaaGreat
