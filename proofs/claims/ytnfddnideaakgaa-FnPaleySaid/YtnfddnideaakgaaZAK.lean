/- The parameters of a balanced design: the reference's side. No condition beyond those stated. -/
import Derived.Test.YtnfddnideaakgaaZAH
import Derived.Test.YtnfddnideaakgaaZAJ
set_option linter.unusedVariables false
set_option linter.unusedSimpArgs false
namespace Go.Proofs.Ytnfddnideaakgaa
open Go.RowKit

/-- a balanced design, its block size and how many blocks have each pair of points -/
structure Bal (v : Nat) (bs : List (List Int)) (k : Nat) (lam : Int) : Prop where
  d : Design (v : Int) bs
  v2 : 2 ≤ v
  b1 : 0 < bs.length
  len : ∀ i, i < bs.length → (row bs i).length = k
  k2 : 2 ≤ k
  lam : ∀ j, j < (prP v bs v).length → nth (prP v bs v) j = lam
/-- the parameters' cells -/
def parV (v b r k : Nat) (lam : Int) : Array Value := #[.int .i64 (v : Int), .int .i64 (b : Int), .int .i64 (r : Int), .int .i64 (k : Int), .int .i64 lam]
def par0 : Array Value := #[.int .i64 0, .int .i64 0, .int .i64 0, .int .i64 0, .int .i64 0]
theorem prB_len (bs : List (List Int)) (a j : Nat) : (prB bs a j).length = j := by simp [prB]
theorem prP_pos {v : Nat} {bs : List (List Int)} (h : 2 ≤ v) : 0 < (prP v bs v).length := by
  obtain ⟨u, rfl⟩ : ∃ u, v = u + 1 := ⟨v - 1, by omega⟩
  have h1 : (prB bs 0 (u + 1 - 0 - 1)).length = u := by rw [prB_len]; omega
  have : (prP (u + 1) bs 1).length = u := by rw [show (1 : Nat) = 0 + 1 from rfl, prP_step, List.length_append, h1]; simp [prP]
  have hm : ∀ a, (prP (u + 1) bs (a + 1)).length ≥ u := by
    intro a
    induction a with
    | zero => simp only [Nat.zero_add]; omega
    | succ a ih => rw [prP_step, List.length_append]; omega
  have := hm u
  omega
theorem Blk.cells5 {w : World} {g : Nat} {t : TypeId} {a b c d e : Value} (h : Blk w g t #[a, b, c, d, e]) : w.cell? ⟨g, 0, none⟩ = some a ∧ w.cell? ⟨g, 1, none⟩ = some b ∧ w.cell? ⟨g, 2, none⟩ = some c ∧ w.cell? ⟨g, 3, none⟩ = some d ∧ w.cell? ⟨g, 4, none⟩ = some e := ⟨h.cell 0, h.cell 1, h.cell 2, h.cell 3, h.cell 4⟩
theorem prP_len_le {v : Nat} {bs : List (List Int)} : ∀ a, a ≤ v → (prP v bs a).length ≤ a * v := by
  intro a
  induction a with
  | zero => intro _; simp [prP]
  | succ a ih =>
    intro h
    have := ih (by omega)
    rw [prP_step, List.length_append, prB_len, Nat.succ_mul]
    omega
theorem put5 {w : World} {rb : Nat} {t : TypeId} {x0 x1 x2 x3 x4 a b c d e : Value} (R : Blk w rb t #[x0, x1, x2, x3, x4]) :
    Blk (((((w.setCell ⟨rb, 0, none⟩ a).setCell ⟨rb, 1, none⟩ b).setCell ⟨rb, 2, none⟩ c).setCell ⟨rb, 3, none⟩ d).setCell ⟨rb, 4, none⟩ e) rb t #[a, b, c, d, e] := by
  have := ((((R.set_ 0 a).set_ 1 b).set_ 2 c).set_ 3 d).set_ 4 e
  simpa using this
theorem below5 {w0 w : World} {rb : Nat} {a b c d e : Value} (h : Below w0.heap.size w0 w) (hr : w0.heap.size ≤ rb) :
    Below w0.heap.size w0 (((((w.setCell ⟨rb, 0, none⟩ a).setCell ⟨rb, 1, none⟩ b).setCell ⟨rb, 2, none⟩ c).setCell ⟨rb, 3, none⟩ d).setCell ⟨rb, 4, none⟩ e) :=
  ((((h.setCell (p := ⟨rb, 0, none⟩) hr a).setCell (p := ⟨rb, 1, none⟩) hr b).setCell (p := ⟨rb, 2, none⟩) hr c).setCell (p := ⟨rb, 3, none⟩) hr d).setCell (p := ⟨rb, 4, none⟩) hr e
/-- a result that says no -/
theorem par_no (w w5 : World) (rb : Nat) (R : Blk w5 rb 70 par0) : w5.cell? ⟨rb, 0, none⟩ = some (.int .i64 0) ∧ w5.cell? ⟨rb, 1, none⟩ = some (.int .i64 0) ∧ w5.cell? ⟨rb, 2, none⟩ = some (.int .i64 0) ∧ w5.cell? ⟨rb, 3, none⟩ = some (.int .i64 0) ∧ w5.cell? ⟨rb, 4, none⟩ = some (.int .i64 0) := R.cells5
/-- what the call hands back: parameters that are right, if it says yes -/
def RetPa (w : World) (v : Nat) (bs : List (List Int)) (e : Ending) (w' : World) : Prop :=
  ∃ (ok : Bool) (cs : Array Value), e = .returned (.tuple #[.agg cs, .bool ok]) ∧ Below w.heap.size w w' ∧ cs.size = 5 ∧ (ok = true → ∃ k lam, Bal v bs k lam ∧ cs = parV v bs.length (bs.flatten.count 0) k lam) ∧ (ok = false → cs = par0)
set_option maxRecDepth 100000 in
set_option maxHeartbeats 8000000 in
theorem l10Parameters_any (g v : Nat) (A : Option Addr) (n c : Nat) (bs : List (List Int)) (w : World) (hB : Blk w g 32 #[.int .i64 (v : Int), .slice A n c]) (ha : RR w A n bs) (hD : Design (v : Int) bs) :
    Calls Try.prog 41 #[.pointer (some ⟨g, 0, none⟩)] w (RetPa w v bs) := by
  have hla := Lib.hid ha.len
  have hv : v ≤ 32 := by have := hD.v2; omega
  have hn : n ≤ 128 := by rw [← hla.out]; exact hD.len
  have HD := Lib.hid hD
  clear hD
  have R : Blk (w.alloc (.cells #[.int .i64 0, .int .i64 0, .int .i64 0, .int .i64 0, .int .i64 0] 70)) w.heap.size 70 #[.int .i64 0, .int .i64 0, .int .i64 0, .int .i64 0, .int .i64 0] := Blk.new w 70 _
  have hw := below_alloc w (.cells #[.int .i64 0, .int .i64 0, .int .i64 0, .int .i64 0, .int .i64 0] 70)
  have X := hB.after hw
  have hr := ha.keep hw
  clear hB ha
  obtain ⟨x0, x1⟩ := X.cells2
  go_enter Try.func41, Try.ntmps41
  by_cases hv2 : v < 2
  · have hvi : (v : Int) < 2 := by omega
    obtain ⟨y0, y1, y2, y3, y4⟩ := R.cells5
    have f0 := R.frozen 0
    have f1 := R.frozen 1
    have f2 := R.frozen 2
    have f3 := R.frozen 3
    have f4 := R.frozen 4
    obtain ⟨z0, z1, z2, z3, z4⟩ := (put5 (a := .int .i64 0) (b := .int .i64 0) (c := .int .i64 0) (d := .int .i64 0) (e := .int .i64 0) R).cells5
    have hbz := below5 (a := .int .i64 0) (b := .int .i64 0) (c := .int .i64 0) (d := .int .i64 0) (e := .int .i64 0) hw (Nat.le_refl w.heap.size)
    clear R
    go_wp2
    exact bodyPost_ret (v := .tuple #[.agg #[.int .i64 0, .int .i64 0, .int .i64 0, .int .i64 0, .int .i64 0], .bool false]) (by simp [results, Try.results41, go_sem, y0, y1, y2, y3, y4, z0, z1, z2, z3, z4]) rfl ⟨false, _, rfl, hw, rfl, (fun h => by cases h), fun _ => rfl⟩
  have hvi : ¬ (v : Int) < 2 := by omega
  by_cases hn0 : n = 0
  · subst hn0
    obtain ⟨y0, y1, y2, y3, y4⟩ := R.cells5
    have f0 := R.frozen 0
    have f1 := R.frozen 1
    have f2 := R.frozen 2
    have f3 := R.frozen 3
    have f4 := R.frozen 4
    obtain ⟨z0, z1, z2, z3, z4⟩ := (put5 (a := .int .i64 0) (b := .int .i64 0) (c := .int .i64 0) (d := .int .i64 0) (e := .int .i64 0) R).cells5
    have hbz := below5 (a := .int .i64 0) (b := .int .i64 0) (c := .int .i64 0) (d := .int .i64 0) (e := .int .i64 0) hw (Nat.le_refl w.heap.size)
    clear R
    go_wp2
    exact bodyPost_ret (v := .tuple #[.agg #[.int .i64 0, .int .i64 0, .int .i64 0, .int .i64 0, .int .i64 0], .bool false]) (by simp [results, Try.results41, go_sem, y0, y1, y2, y3, y4, z0, z1, z2, z3, z4]) rfl ⟨false, _, rfl, hw, rfl, (fun h => by cases h), fun _ => rfl⟩
  have hni : ((n : Int) == 0) = false := by simp [hn0]
  obtain ⟨ad, Z, k, zc, rfl, cz, hk1, hk2, hrz⟩ := hr.get (k := 0) (by omega)
  have cz : (w.alloc (.cells #[.int .i64 0, .int .i64 0, .int .i64 0, .int .i64 0, .int .i64 0] 70)).cell? ad = some (.slice Z k zc) := cz
  have hk0 : (row bs 0).length = k := hrz.len
  have HK0 := Lib.hid hk0
  have hkv : k ≤ 32 := by have := (des_row HD.out (i := 0) (by rw [hla.out]; omega)).1; omega
  clear hk0 hrz
  go_wp2
  generalize w.alloc (.cells #[.int .i64 0, .int .i64 0, .int .i64 0, .int .i64 0, .int .i64 0] 70) = W at *
  go_loop [5] (fun iv => ∃ i : Nat, i ≤ n ∧ iv = .int .i64 i ∧ Hid (∀ j, j < i → (row bs j).length = k) ∧ (0 < i → 2 ≤ k)) (fun iv => n - (intOf iv).toNat)
  case atStart => exact ⟨0, Nat.zero_le _, rfl, Lib.hid fun j hj => absurd hj (by omega), fun h => absurd h (by omega)⟩
  case round =>
    obtain ⟨i, hi, rfl, HL, hk2'⟩ := hrel
    by_cases hlt : i < n
    · obtain ⟨ad', Y, m, yc, had, cy, hm1, hm2, hry⟩ := hr.get hlt
      cases had
      have hml := hry.len
      have HML := Lib.hid hml
      clear hry hml
      by_cases hmk : m = k
      · by_cases hk22 : 2 ≤ k
        · have hmi : ((m : Int) == (k : Int)) = true := by simp [hmk]
          have HL2 : Hid (∀ j, j < i + 1 → (row bs j).length = k) := Lib.hid fun j hj => by
            rcases Nat.lt_succ_iff_lt_or_eq.1 hj with h | rfl
            · exact HL.out j h
            · rw [HML.out, hmk]
          subst hmk
          have hk2i : ¬ (m : Int) < 2 := by omega
          clear HL hk2'
          go_wp2
          go_round
          case rel => exact ⟨i + 1, by omega, by go_num, HL2, fun _ => hk22⟩
          case measure => simp [intOf]; omega
        · have hk2i : (k : Int) < 2 := by omega
          subst hmk
          obtain ⟨y0, y1, y2, y3, y4⟩ := R.cells5
          have f0 := R.frozen 0
          have f1 := R.frozen 1
          have f2 := R.frozen 2
          have f3 := R.frozen 3
          have f4 := R.frozen 4
          obtain ⟨z0, z1, z2, z3, z4⟩ := (put5 (a := .int .i64 0) (b := .int .i64 0) (c := .int .i64 0) (d := .int .i64 0) (e := .int .i64 0) R).cells5
          have hbz := below5 (a := .int .i64 0) (b := .int .i64 0) (c := .int .i64 0) (d := .int .i64 0) (e := .int .i64 0) hw (Nat.le_refl w.heap.size)
          clear R
          go_wp2
          exact bodyPost_ret (v := .tuple #[.agg #[.int .i64 0, .int .i64 0, .int .i64 0, .int .i64 0, .int .i64 0], .bool false]) (by simp [results, Try.results41, go_sem, y0, y1, y2, y3, y4, z0, z1, z2, z3, z4]) rfl ⟨false, _, rfl, hbz, rfl, (fun h => by cases h), fun _ => rfl⟩
      · have hmi : ¬ ((m : Int) = (k : Int)) := by omega
        obtain ⟨y0, y1, y2, y3, y4⟩ := R.cells5
        have f0 := R.frozen 0
        have f1 := R.frozen 1
        have f2 := R.frozen 2
        have f3 := R.frozen 3
        have f4 := R.frozen 4
        obtain ⟨z0, z1, z2, z3, z4⟩ := (put5 (a := .int .i64 0) (b := .int .i64 0) (c := .int .i64 0) (d := .int .i64 0) (e := .int .i64 0) R).cells5
        have hbz := below5 (a := .int .i64 0) (b := .int .i64 0) (c := .int .i64 0) (d := .int .i64 0) (e := .int .i64 0) hw (Nat.le_refl w.heap.size)
        clear R
        go_wp2
        exact bodyPost_ret (v := .tuple #[.agg #[.int .i64 0, .int .i64 0, .int .i64 0, .int .i64 0, .int .i64 0], .bool false]) (by simp [results, Try.results41, go_sem, y0, y1, y2, y3, y4, z0, z1, z2, z3, z4]) rfl ⟨false, _, rfl, hbz, rfl, (fun h => by cases h), fun _ => rfl⟩
    · obtain rfl : i = n := by omega
      have hk22 := hk2' (by omega)
      clear hk2' cz
      go_wp2_with fail
      refine (l10Pairs_any g v (some ad) i c bs W X hr hv hn).mono ?_
      rintro e w2 ⟨P, pn, pc, rfl, hop, hb2⟩
      have hw2 := hw.trans (hb2.mono hw.size)
      have X := X.after hb2
      have R := R.after hb2
      have hr := hr.keep hb2
      have hop := hop.more hw.size
      have hpl := hop.len
      have hpos := prP_pos (bs := bs) (v := v) (by omega)
      have hple := prP_len_le (v := v) (bs := bs) v (Nat.le_refl _)
      have hvv : v * v ≤ 32 * 32 := Nat.mul_le_mul hv hv
      obtain ⟨gp, rfl, cp, -, ip⟩ := hop.cell (k := 0) (by omega)
      have HP0 : ∃ lam, lam = nth (prP v bs v) 0 := ⟨_, rfl⟩
      obtain ⟨lam, hlam⟩ := HP0
      have HLam := Lib.hid hlam
      rw [← hlam] at cp ip
      have hpn : 0 < pn := by omega
      have hpn2 : pn ≤ 1024 := by omega
      have HPL := Lib.hid hpl
      clear hlam hpl hple hvv hpos hb2 x0 x1
      go_wp2
      go_loopw [7] (fun jv wr => ∃ j : Nat, j ≤ pn ∧ jv = .int .i64 j ∧ Hid (∀ q, q < j → nth (prP v bs v) q = lam) ∧ Below w2.heap.size w2 wr) (fun jv _ => pn - (intOf jv).toNat)
      case atStart => exact ⟨0, Nat.zero_le _, rfl, Lib.hid fun j hj => absurd hj (by omega), Below.refl _ _⟩
      case round =>
        obtain ⟨j, hj, rfl, HQ, hb3⟩ := hrel
        have hw3 := hw2.trans (hb3.mono hw2.size)
        have X := X.after hb3
        have R := R.after hb3
        have hop := hop.below hb3
        have hr := hr.keep hb3
        by_cases hlj : j < pn
        · obtain ⟨gp', hgp, cj, -, ij⟩ := hop.cell hlj
          cases hgp
          have cp3 := below_cell hb3 cp
          obtain ⟨u, hu⟩ : ∃ u, u = nth (prP v bs v) j := ⟨_, rfl⟩
          have HU := Lib.hid hu
          rw [← hu] at cj ij
          clear hu
          by_cases hul : u = lam
          · subst hul
            have HQ2 : Hid (∀ q, q < j + 1 → nth (prP v bs v) q = u) := Lib.hid fun q hq => by
              rcases Nat.lt_succ_iff_lt_or_eq.1 hq with h | rfl
              · exact HQ.out q h
              · exact HU.out.symm
            clear HQ hop R X hr
            go_wp2
            go_quiet (fail)
            have hb4 := hb3.trans ((below_drewn wr nq).mono hb3.size)
            go_wp2
            go_roundw
            case rel => exact ⟨j + 1, by omega, by go_num, HQ2, hb4⟩
            case measure => simp [intOf]; omega
          · have hul' : ¬ (u = lam) := hul
            have HR := Lib.hid (fun q => R.after (below_drewn wr q))
            have HW := Lib.hid (fun q => hw3.trans ((below_drewn wr q).mono hw3.size))
            clear HQ hop R X hr
            go_wp2
            go_quiet (fail)
            have R := HR.out nq
            have hw4 := HW.out nq
            clear HR HW cj cp3
            generalize wr.drewN nq = W5 at *
            obtain ⟨y0, y1, y2, y3, y4⟩ := R.cells5
            have f0 := R.frozen 0
            have f1 := R.frozen 1
            have f2 := R.frozen 2
            have f3 := R.frozen 3
            have f4 := R.frozen 4
            obtain ⟨z0, z1, z2, z3, z4⟩ := (put5 (a := .int .i64 0) (b := .int .i64 0) (c := .int .i64 0) (d := .int .i64 0) (e := .int .i64 0) R).cells5
            have hbz := below5 (a := .int .i64 0) (b := .int .i64 0) (c := .int .i64 0) (d := .int .i64 0) (e := .int .i64 0) hw4 (Nat.le_refl w.heap.size)
            clear R
            go_wp2
            exact bodyPost_ret (v := .tuple #[.agg #[.int .i64 0, .int .i64 0, .int .i64 0, .int .i64 0, .int .i64 0], .bool false]) (by simp [results, Try.results41, go_sem, y0, y1, y2, y3, y4, z0, z1, z2, z3, z4]) rfl ⟨false, _, rfl, hbz, rfl, (fun h => by cases h), fun _ => rfl⟩
        · obtain rfl : j = pn := by omega
          have HB : Hid (Bal v bs k lam) := Lib.hid ⟨HD.out, by omega, by rw [hla.out]; omega, fun q hq => HL.out q (by rw [← hla.out]; exact hq), hk22, fun q hq => HQ.out q (by rw [← HPL.out]; exact hq)⟩
          have HC := Lib.hid (fun (w' : World) (hb : Below wr.heap.size wr w') => l10Replications_any g v (some ad) i c bs w' (X.after hb) (hr.keep hb) HD.out)
          have HR := Lib.hid (fun (w' : World) (hb : Below wr.heap.size wr w') => R.after hb)
          have cp3 := below_cell hb3 cp
          have HP3 := Lib.hid cp3
          obtain ⟨x0, x1⟩ := X.cells2
          have HX := Lib.hid (And.intro x0 x1)
          have hcb : bs.flatten.count 0 ≤ 4096 := by
            have h1 := List.count_le_length (a := (0 : Int)) (l := bs.flatten)
            have h2 := flat_len (fun i hi => (des_row HD.out hi).1) bs.length (Nat.le_refl _)
            rw [List.take_length] at h2
            have h3 : bs.length * v ≤ 128 * 32 := Nat.mul_le_mul (by rw [hla.out]; exact hn) hv
            omega
          clear HQ HL hop R X hr
          go_wp2
          have hdr : Below wr.heap.size wr wr.drew := by have := below_drewn wr 1; rwa [← World.drew_is_drewN] at this
          refine region_suf (P := Try.prog) (n := 18) (S := fun w' => w'.cell? ⟨g, 0, none⟩ = some (.int .i64 (v : Int)) ∧ w'.cell? ⟨g, 1, none⟩ = some (.slice (some ad) i c) ∧ w'.cell? ⟨gp, 0, none⟩ = some (.int .i64 lam)) (by kernel_rfl) (by simp only [List.take_succ_cons, List.take_zero]; rfl) (by simp only [List.drop_succ_cons, List.drop_zero]; rfl) (by kernel_rfl) (by simpa using ⟨x0, x1, cp3⟩) ?_
          intro hS
          refine wpAnyH_take (i := 0) (v := ?_) rfl (by kernel_rfl) (by kernel_rfl) (by kernel_rfl) (fun _ _ _ h => h) (Or.inl ⟨by rfl, ?_⟩) (by assumption) ?_
          rotate_left
          · (intro w hSw; (try dsimp only at hSw); go_simp; (try with_reducible rfl))
          simp only [Act.put, List.setIfInBounds_toArray, List.set_cons_zero, List.set_cons_succ]
          refine wpAnyH_take (i := 1) (v := ?_) rfl (by kernel_rfl) (by kernel_rfl) (by kernel_rfl) (fun _ _ _ h => h) (Or.inl ⟨by rfl, ?_⟩) (by assumption) ?_
          rotate_left
          · (intro w hSw; (try dsimp only at hSw); go_simp; (try with_reducible rfl))
          simp only [Act.put, List.setIfInBounds_toArray, List.set_cons_zero, List.set_cons_succ]
          refine wpAnyH_take (i := 2) (v := ?_) rfl (by kernel_rfl) (by kernel_rfl) (by kernel_rfl) (fun _ _ _ h => h) (Or.inl ⟨by rfl, ?_⟩) (by assumption) ?_
          rotate_left
          · (intro w hSw; (try dsimp only at hSw); go_simp; (try with_reducible rfl))
          simp only [Act.put, List.setIfInBounds_toArray, List.set_cons_zero, List.set_cons_succ]
          refine wpAnyH_take (i := 3) (v := ?_) rfl (by kernel_rfl) (by kernel_rfl) (by kernel_rfl) (fun _ _ _ h => h) (Or.inl ⟨by rfl, ?_⟩) (by assumption) ?_
          rotate_left
          · (intro w hSw; (try dsimp only at hSw); go_simp; (try with_reducible rfl))
          simp only [Act.put, List.setIfInBounds_toArray, List.set_cons_zero, List.set_cons_succ]
          refine wpAnyH_take (i := 4) (v := ?_) rfl (by kernel_rfl) (by kernel_rfl) (by kernel_rfl) (fun _ _ _ h => h) (Or.inl ⟨by rfl, ?_⟩) (by assumption) ?_
          rotate_left
          · (intro w hSw; (try dsimp only at hSw); go_simp; (try with_reducible rfl))
          simp only [Act.put, List.setIfInBounds_toArray, List.set_cons_zero, List.set_cons_succ]
          refine wpAnyH_take (i := 5) (v := ?_) rfl (by kernel_rfl) (by kernel_rfl) (by kernel_rfl) (fun _ _ _ h => h) (Or.inl ⟨by rfl, ?_⟩) (by assumption) ?_
          rotate_left
          · (intro w hSw; (try dsimp only at hSw); go_simp; (try with_reducible rfl))
          simp only [Act.put, List.setIfInBounds_toArray, List.set_cons_zero, List.set_cons_succ]
          refine wpAnyH_take (i := 6) (v := ?_) rfl (by kernel_rfl) (by kernel_rfl) (by kernel_rfl) (fun _ _ _ h => h) (Or.inl ⟨by rfl, ?_⟩) (by assumption) ?_
          rotate_left
          · (intro w hSw; (try dsimp only at hSw); go_simp; (try with_reducible rfl))
          simp only [Act.put, List.setIfInBounds_toArray, List.set_cons_zero, List.set_cons_succ]
          refine wpAnyH_take (i := 7) (v := ?_) rfl (by kernel_rfl) (by kernel_rfl) (by kernel_rfl) (fun _ _ _ h => h) (Or.inl ⟨by rfl, ?_⟩) (by assumption) ?_
          rotate_left
          · (intro w hSw; (try dsimp only at hSw); go_simp; (try with_reducible rfl))
          simp only [Act.put, List.setIfInBounds_toArray, List.set_cons_zero, List.set_cons_succ]
          refine wpAnyH_take (i := 8) (v := ?_) rfl (by kernel_rfl) (by kernel_rfl) (by kernel_rfl) (fun _ _ _ h => h) (Or.inl ⟨by rfl, ?_⟩) (by assumption) ?_
          rotate_left
          · (intro w hSw; (try dsimp only at hSw); go_simp; (try with_reducible rfl))
          simp only [Act.put, List.setIfInBounds_toArray, List.set_cons_zero, List.set_cons_succ]
          refine wpAnyH_take (i := 9) (v := ?_) rfl (by kernel_rfl) (by kernel_rfl) (by kernel_rfl) (fun _ _ _ h => h) (Or.inl ⟨by rfl, ?_⟩) (by assumption) ?_
          rotate_left
          · (intro w hSw; (try dsimp only at hSw); go_simp; (try with_reducible rfl))
          simp only [Act.put, List.setIfInBounds_toArray, List.set_cons_zero, List.set_cons_succ]
          refine wpAnyH_take (i := 13) (v := ?_) rfl (by kernel_rfl) (by kernel_rfl) (by kernel_rfl) (fun _ _ _ h => h) (Or.inl ⟨by rfl, ?_⟩) (by assumption) ?_
          rotate_left
          · (intro w hSw; (try dsimp only at hSw); go_simp; (try with_reducible rfl))
          simp only [Act.put, List.setIfInBounds_toArray, List.set_cons_zero, List.set_cons_succ]
          refine wpAnyH_take (i := 14) (v := ?_) rfl (by kernel_rfl) (by kernel_rfl) (by kernel_rfl) (fun _ _ _ h => h) (Or.inl ⟨by rfl, ?_⟩) (by assumption) ?_
          rotate_left
          · (intro w hSw; (try dsimp only at hSw); go_simp; (try with_reducible rfl))
          simp only [Act.put, List.setIfInBounds_toArray, List.set_cons_zero, List.set_cons_succ]
          refine wpAnyH_take (i := 15) (v := ?_) rfl (by kernel_rfl) (by kernel_rfl) (by kernel_rfl) (fun _ _ _ h => h) (Or.inl ⟨by rfl, ?_⟩) (by assumption) ?_
          rotate_left
          · (intro w hSw; (try dsimp only at hSw); go_simp; (try with_reducible rfl))
          simp only [Act.put, List.setIfInBounds_toArray, List.set_cons_zero, List.set_cons_succ]
          refine wpAnyH_take (i := 16) (v := ?_) rfl (by kernel_rfl) (by kernel_rfl) (by kernel_rfl) (fun _ _ _ h => h) (Or.inl ⟨by rfl, ?_⟩) (by assumption) ?_
          rotate_left
          · (intro w hSw; (try dsimp only at hSw); go_simp; (try with_reducible rfl))
          simp only [Act.put, List.setIfInBounds_toArray, List.set_cons_zero, List.set_cons_succ]
          refine wpAnyH_ready (rs := [10]) (by kernel_rfl) (by simp) ?_
          refine AllReadyH.cons rfl (fun K hK => ?_) AllReadyH.nil
          go_simp
          refine (HC.out _ hdr).mono ?_
          rintro e w5 ⟨Q, qn, qc, rfl, hoq, hb5⟩
          dsimp only
          have hX5 := hdr.trans (hb5.mono hdr.size)
          have hql := hoq.len
          have hqv : qn = v := by rw [← hql]; simp [repP]
          have R := HR.out _ hX5
          have hw5 := hw3.trans (hX5.mono hw3.size)
          obtain ⟨gq, hgq, cq, -, iq⟩ := hoq.cell (k := 0) (by omega)
          have hrep : nth (repP v bs) 0 = ((bs.flatten.count 0 : Nat) : Int) := by rw [nth_get (by simp [repP]; omega)]; simp [repP]
          rw [hrep] at cq
          refine hK.out _ _ ⟨below_cell hX5 HX.out.1, below_cell hX5 HX.out.2, below_cell hX5 HP3.out⟩ (fun hS1 => ?_)
          clear hK K hS
          subst hgq
          clear hql hrep iq hoq
          obtain ⟨r0, hr0⟩ : ∃ r0, r0 = bs.flatten.count 0 := ⟨_, rfl⟩
          rw [← hr0] at cq hcb
          have HR0 := Lib.hid hr0
          clear hr0
          have hqv' : 0 < qn := by omega
          have hv0 : 0 < v := by omega
          refine wpAnyH_take (i := 11) (v := ?_) rfl (by kernel_rfl) (by kernel_rfl) (by kernel_rfl) (fun _ _ _ h => h) (Or.inl ⟨by rfl, ?_⟩) (by assumption) ?_
          rotate_left
          · (intro w hSw; (try dsimp only at hSw); go_simp; (try with_reducible rfl))
          simp only [Act.put, List.setIfInBounds_toArray, List.set_cons_zero, List.set_cons_succ]
          refine wpAnyH_ready (rs := [12]) (by kernel_rfl) (by simp) ?_
          refine AllReadyH.cons rfl (fun K hK => ?_) AllReadyH.nil
          go_simp
          refine hK.out _ _ hS1 (fun hS2 => ?_)
          clear hK K
          refine wpAnyH_take (i := 17) (v := ?_) rfl (by kernel_rfl) (by kernel_rfl) (by kernel_rfl) (fun _ _ _ h => h) (Or.inl ⟨by rfl, ?_⟩) (by assumption) ?_
          rotate_left
          · (intro w hSw; (try dsimp only at hSw); go_simp; (try with_reducible rfl))
          simp only [Act.put, List.setIfInBounds_toArray, List.set_cons_zero, List.set_cons_succ]
          refine wpAnyH_done (by kernel_rfl) ?_ _
          dsimp only [atEnd]
          clear hS1 hS2
          obtain ⟨y0, y1, y2, y3, y4⟩ := R.cells5
          have f0 := R.frozen 0
          have f1 := R.frozen 1
          have f2 := R.frozen 2
          have f3 := R.frozen 3
          have f4 := R.frozen 4
          obtain ⟨z0, z1, z2, z3, z4⟩ := (put5 (a := .int .i64 (v : Int)) (b := .int .i64 (i : Int)) (c := .int .i64 (r0 : Int)) (d := .int .i64 (k : Int)) (e := .int .i64 lam) R).cells5
          have hbz := below5 (a := .int .i64 (v : Int)) (b := .int .i64 (i : Int)) (c := .int .i64 (r0 : Int)) (d := .int .i64 (k : Int)) (e := .int .i64 lam) hw5 (Nat.le_refl w.heap.size)
          clear R cq HX HP3 cp3 x0 x1
          go_wp2
          exact bodyPost_ret (v := .tuple #[.agg #[.int .i64 (v : Int), .int .i64 (i : Int), .int .i64 (r0 : Int), .int .i64 (k : Int), .int .i64 lam], .bool true]) (by simp [results, Try.results41, go_sem, z0, z1, z2, z3, z4]) rfl ⟨true, _, rfl, hbz, rfl, (fun _ => ⟨k, lam, HB.out, by rw [hla.out, ← HR0.out]; rfl⟩), (fun h => by cases h)⟩
end Go.Proofs.Ytnfddnideaakgaa
/- The parameters of a balanced design: the reference's side, said yes; the order of a projective plane. No condition beyond those stated. -/
namespace Go.Proofs.Ytnfddnideaakgaa
open Go.RowKit

set_option maxRecDepth 100000 in
set_option maxHeartbeats 8000000 in
theorem l10Parameters_bal (k0 : Nat) (lam0 : Int) (g v : Nat) (A : Option Addr) (n c : Nat) (bs : List (List Int)) (w : World) (hB : Blk w g 32 #[.int .i64 (v : Int), .slice A n c]) (ha : RR w A n bs) (hD : Design (v : Int) bs) (hBal : Bal v bs k0 lam0) :
    Calls Try.prog 41 #[.pointer (some ⟨g, 0, none⟩)] w (fun e w' => ∃ k lam, Bal v bs k lam ∧ e = .returned (.tuple #[.agg (parV v bs.length (bs.flatten.count 0) k lam), .bool true]) ∧ Below w.heap.size w w') := by
  have hla := Lib.hid ha.len
  have hv : v ≤ 32 := by have := hD.v2; omega
  have hn : n ≤ 128 := by rw [← hla.out]; exact hD.len
  have HD := Lib.hid hD
  clear hD
  have HBal := Lib.hid hBal
  clear hBal
  have R : Blk (w.alloc (.cells #[.int .i64 0, .int .i64 0, .int .i64 0, .int .i64 0, .int .i64 0] 70)) w.heap.size 70 #[.int .i64 0, .int .i64 0, .int .i64 0, .int .i64 0, .int .i64 0] := Blk.new w 70 _
  have hw := below_alloc w (.cells #[.int .i64 0, .int .i64 0, .int .i64 0, .int .i64 0, .int .i64 0] 70)
  have X := hB.after hw
  have hr := ha.keep hw
  clear hB ha
  obtain ⟨x0, x1⟩ := X.cells2
  go_enter Try.func41, Try.ntmps41
  by_cases hv2 : v < 2
  · exact absurd HBal.out.v2 (by omega)
  have hvi : ¬ (v : Int) < 2 := by omega
  by_cases hn0 : n = 0
  · exact absurd HBal.out.b1 (by rw [hla.out]; omega)
  have hni : ((n : Int) == 0) = false := by simp [hn0]
  obtain ⟨ad, Z, k, zc, rfl, cz, hk1, hk2, hrz⟩ := hr.get (k := 0) (by omega)
  have cz : (w.alloc (.cells #[.int .i64 0, .int .i64 0, .int .i64 0, .int .i64 0, .int .i64 0] 70)).cell? ad = some (.slice Z k zc) := cz
  have hk0 : (row bs 0).length = k := hrz.len
  have HK0 := Lib.hid hk0
  have hkv : k ≤ 32 := by have := (des_row HD.out (i := 0) (by rw [hla.out]; omega)).1; omega
  clear hk0 hrz
  go_wp2
  generalize w.alloc (.cells #[.int .i64 0, .int .i64 0, .int .i64 0, .int .i64 0, .int .i64 0] 70) = W at *
  go_loop [5] (fun iv => ∃ i : Nat, i ≤ n ∧ iv = .int .i64 i ∧ Hid (∀ j, j < i → (row bs j).length = k) ∧ (0 < i → 2 ≤ k)) (fun iv => n - (intOf iv).toNat)
  case atStart => exact ⟨0, Nat.zero_le _, rfl, Lib.hid fun j hj => absurd hj (by omega), fun h => absurd h (by omega)⟩
  case round =>
    obtain ⟨i, hi, rfl, HL, hk2'⟩ := hrel
    by_cases hlt : i < n
    · obtain ⟨ad', Y, m, yc, had, cy, hm1, hm2, hry⟩ := hr.get hlt
      cases had
      have hml := hry.len
      have HML := Lib.hid hml
      clear hry hml
      by_cases hmk : m = k
      · by_cases hk22 : 2 ≤ k
        · have hmi : ((m : Int) == (k : Int)) = true := by simp [hmk]
          have HL2 : Hid (∀ j, j < i + 1 → (row bs j).length = k) := Lib.hid fun j hj => by
            rcases Nat.lt_succ_iff_lt_or_eq.1 hj with h | rfl
            · exact HL.out j h
            · rw [HML.out, hmk]
          subst hmk
          have hk2i : ¬ (m : Int) < 2 := by omega
          clear HL hk2'
          go_wp2
          go_round
          case rel => exact ⟨i + 1, by omega, by go_num, HL2, fun _ => hk22⟩
          case measure => simp [intOf]; omega
        · exact absurd HBal.out.k2 (by rw [← HBal.out.len 0 HBal.out.b1, HK0.out]; exact hk22)
      · exact absurd (by rw [← HML.out, ← HK0.out, HBal.out.len i (by rw [hla.out]; omega), HBal.out.len 0 HBal.out.b1]) hmk
    · obtain rfl : i = n := by omega
      have hk22 := hk2' (by omega)
      clear hk2' cz
      go_wp2_with fail
      refine (l10Pairs_any g v (some ad) i c bs W X hr hv hn).mono ?_
      rintro e w2 ⟨P, pn, pc, rfl, hop, hb2⟩
      have hw2 := hw.trans (hb2.mono hw.size)
      have X := X.after hb2
      have R := R.after hb2
      have hr := hr.keep hb2
      have hop := hop.more hw.size
      have hpl := hop.len
      have hpos := prP_pos (bs := bs) (v := v) (by omega)
      have hple := prP_len_le (v := v) (bs := bs) v (Nat.le_refl _)
      have hvv : v * v ≤ 32 * 32 := Nat.mul_le_mul hv hv
      obtain ⟨gp, rfl, cp, -, ip⟩ := hop.cell (k := 0) (by omega)
      have HP0 : ∃ lam, lam = nth (prP v bs v) 0 := ⟨_, rfl⟩
      obtain ⟨lam, hlam⟩ := HP0
      have HLam := Lib.hid hlam
      rw [← hlam] at cp ip
      have hpn : 0 < pn := by omega
      have hpn2 : pn ≤ 1024 := by omega
      have HPL := Lib.hid hpl
      clear hlam hpl hple hvv hpos hb2 x0 x1
      go_wp2
      go_loopw [7] (fun jv wr => ∃ j : Nat, j ≤ pn ∧ jv = .int .i64 j ∧ Hid (∀ q, q < j → nth (prP v bs v) q = lam) ∧ Below w2.heap.size w2 wr) (fun jv _ => pn - (intOf jv).toNat)
      case atStart => exact ⟨0, Nat.zero_le _, rfl, Lib.hid fun j hj => absurd hj (by omega), Below.refl _ _⟩
      case round =>
        obtain ⟨j, hj, rfl, HQ, hb3⟩ := hrel
        have hw3 := hw2.trans (hb3.mono hw2.size)
        have X := X.after hb3
        have R := R.after hb3
        have hop := hop.below hb3
        have hr := hr.keep hb3
        by_cases hlj : j < pn
        · obtain ⟨gp', hgp, cj, -, ij⟩ := hop.cell hlj
          cases hgp
          have cp3 := below_cell hb3 cp
          obtain ⟨u, hu⟩ : ∃ u, u = nth (prP v bs v) j := ⟨_, rfl⟩
          have HU := Lib.hid hu
          rw [← hu] at cj ij
          clear hu
          by_cases hul : u = lam
          · subst hul
            have HQ2 : Hid (∀ q, q < j + 1 → nth (prP v bs v) q = u) := Lib.hid fun q hq => by
              rcases Nat.lt_succ_iff_lt_or_eq.1 hq with h | rfl
              · exact HQ.out q h
              · exact HU.out.symm
            clear HQ hop R X hr
            go_wp2
            go_quiet (fail)
            have hb4 := hb3.trans ((below_drewn wr nq).mono hb3.size)
            go_wp2
            go_roundw
            case rel => exact ⟨j + 1, by omega, by go_num, HQ2, hb4⟩
            case measure => simp [intOf]; omega
          · exact absurd (by rw [HU.out, HLam.out, HBal.out.lam j (by rw [HPL.out]; exact hlj), HBal.out.lam 0 (by rw [HPL.out]; exact hpn)]) hul
        · obtain rfl : j = pn := by omega
          have HB : Hid (Bal v bs k lam) := Lib.hid ⟨HD.out, by omega, by rw [hla.out]; omega, fun q hq => HL.out q (by rw [← hla.out]; exact hq), hk22, fun q hq => HQ.out q (by rw [← HPL.out]; exact hq)⟩
          have HC := Lib.hid (fun (w' : World) (hb : Below wr.heap.size wr w') => l10Replications_any g v (some ad) i c bs w' (X.after hb) (hr.keep hb) HD.out)
          have HR := Lib.hid (fun (w' : World) (hb : Below wr.heap.size wr w') => R.after hb)
          have cp3 := below_cell hb3 cp
          have HP3 := Lib.hid cp3
          obtain ⟨x0, x1⟩ := X.cells2
          have HX := Lib.hid (And.intro x0 x1)
          have hcb : bs.flatten.count 0 ≤ 4096 := by
            have h1 := List.count_le_length (a := (0 : Int)) (l := bs.flatten)
            have h2 := flat_len (fun i hi => (des_row HD.out hi).1) bs.length (Nat.le_refl _)
            rw [List.take_length] at h2
            have h3 : bs.length * v ≤ 128 * 32 := Nat.mul_le_mul (by rw [hla.out]; exact hn) hv
            omega
          clear HQ HL hop R X hr
          go_wp2
          have hdr : Below wr.heap.size wr wr.drew := by have := below_drewn wr 1; rwa [← World.drew_is_drewN] at this
          refine region_suf (P := Try.prog) (n := 18) (S := fun w' => w'.cell? ⟨g, 0, none⟩ = some (.int .i64 (v : Int)) ∧ w'.cell? ⟨g, 1, none⟩ = some (.slice (some ad) i c) ∧ w'.cell? ⟨gp, 0, none⟩ = some (.int .i64 lam)) (by kernel_rfl) (by simp only [List.take_succ_cons, List.take_zero]; rfl) (by simp only [List.drop_succ_cons, List.drop_zero]; rfl) (by kernel_rfl) (by simpa using ⟨x0, x1, cp3⟩) ?_
          intro hS
          refine wpAnyH_take (i := 0) (v := ?_) rfl (by kernel_rfl) (by kernel_rfl) (by kernel_rfl) (fun _ _ _ h => h) (Or.inl ⟨by rfl, ?_⟩) (by assumption) ?_
          rotate_left
          · (intro w hSw; (try dsimp only at hSw); go_simp; (try with_reducible rfl))
          simp only [Act.put, List.setIfInBounds_toArray, List.set_cons_zero, List.set_cons_succ]
          refine wpAnyH_take (i := 1) (v := ?_) rfl (by kernel_rfl) (by kernel_rfl) (by kernel_rfl) (fun _ _ _ h => h) (Or.inl ⟨by rfl, ?_⟩) (by assumption) ?_
          rotate_left
          · (intro w hSw; (try dsimp only at hSw); go_simp; (try with_reducible rfl))
          simp only [Act.put, List.setIfInBounds_toArray, List.set_cons_zero, List.set_cons_succ]
          refine wpAnyH_take (i := 2) (v := ?_) rfl (by kernel_rfl) (by kernel_rfl) (by kernel_rfl) (fun _ _ _ h => h) (Or.inl ⟨by rfl, ?_⟩) (by assumption) ?_
          rotate_left
          · (intro w hSw; (try dsimp only at hSw); go_simp; (try with_reducible rfl))
          simp only [Act.put, List.setIfInBounds_toArray, List.set_cons_zero, List.set_cons_succ]
          refine wpAnyH_take (i := 3) (v := ?_) rfl (by kernel_rfl) (by kernel_rfl) (by kernel_rfl) (fun _ _ _ h => h) (Or.inl ⟨by rfl, ?_⟩) (by assumption) ?_
          rotate_left
          · (intro w hSw; (try dsimp only at hSw); go_simp; (try with_reducible rfl))
          simp only [Act.put, List.setIfInBounds_toArray, List.set_cons_zero, List.set_cons_succ]
          refine wpAnyH_take (i := 4) (v := ?_) rfl (by kernel_rfl) (by kernel_rfl) (by kernel_rfl) (fun _ _ _ h => h) (Or.inl ⟨by rfl, ?_⟩) (by assumption) ?_
          rotate_left
          · (intro w hSw; (try dsimp only at hSw); go_simp; (try with_reducible rfl))
          simp only [Act.put, List.setIfInBounds_toArray, List.set_cons_zero, List.set_cons_succ]
          refine wpAnyH_take (i := 5) (v := ?_) rfl (by kernel_rfl) (by kernel_rfl) (by kernel_rfl) (fun _ _ _ h => h) (Or.inl ⟨by rfl, ?_⟩) (by assumption) ?_
          rotate_left
          · (intro w hSw; (try dsimp only at hSw); go_simp; (try with_reducible rfl))
          simp only [Act.put, List.setIfInBounds_toArray, List.set_cons_zero, List.set_cons_succ]
          refine wpAnyH_take (i := 6) (v := ?_) rfl (by kernel_rfl) (by kernel_rfl) (by kernel_rfl) (fun _ _ _ h => h) (Or.inl ⟨by rfl, ?_⟩) (by assumption) ?_
          rotate_left
          · (intro w hSw; (try dsimp only at hSw); go_simp; (try with_reducible rfl))
          simp only [Act.put, List.setIfInBounds_toArray, List.set_cons_zero, List.set_cons_succ]
          refine wpAnyH_take (i := 7) (v := ?_) rfl (by kernel_rfl) (by kernel_rfl) (by kernel_rfl) (fun _ _ _ h => h) (Or.inl ⟨by rfl, ?_⟩) (by assumption) ?_
          rotate_left
          · (intro w hSw; (try dsimp only at hSw); go_simp; (try with_reducible rfl))
          simp only [Act.put, List.setIfInBounds_toArray, List.set_cons_zero, List.set_cons_succ]
          refine wpAnyH_take (i := 8) (v := ?_) rfl (by kernel_rfl) (by kernel_rfl) (by kernel_rfl) (fun _ _ _ h => h) (Or.inl ⟨by rfl, ?_⟩) (by assumption) ?_
          rotate_left
          · (intro w hSw; (try dsimp only at hSw); go_simp; (try with_reducible rfl))
          simp only [Act.put, List.setIfInBounds_toArray, List.set_cons_zero, List.set_cons_succ]
          refine wpAnyH_take (i := 9) (v := ?_) rfl (by kernel_rfl) (by kernel_rfl) (by kernel_rfl) (fun _ _ _ h => h) (Or.inl ⟨by rfl, ?_⟩) (by assumption) ?_
          rotate_left
          · (intro w hSw; (try dsimp only at hSw); go_simp; (try with_reducible rfl))
          simp only [Act.put, List.setIfInBounds_toArray, List.set_cons_zero, List.set_cons_succ]
          refine wpAnyH_take (i := 13) (v := ?_) rfl (by kernel_rfl) (by kernel_rfl) (by kernel_rfl) (fun _ _ _ h => h) (Or.inl ⟨by rfl, ?_⟩) (by assumption) ?_
          rotate_left
          · (intro w hSw; (try dsimp only at hSw); go_simp; (try with_reducible rfl))
          simp only [Act.put, List.setIfInBounds_toArray, List.set_cons_zero, List.set_cons_succ]
          refine wpAnyH_take (i := 14) (v := ?_) rfl (by kernel_rfl) (by kernel_rfl) (by kernel_rfl) (fun _ _ _ h => h) (Or.inl ⟨by rfl, ?_⟩) (by assumption) ?_
          rotate_left
          · (intro w hSw; (try dsimp only at hSw); go_simp; (try with_reducible rfl))
          simp only [Act.put, List.setIfInBounds_toArray, List.set_cons_zero, List.set_cons_succ]
          refine wpAnyH_take (i := 15) (v := ?_) rfl (by kernel_rfl) (by kernel_rfl) (by kernel_rfl) (fun _ _ _ h => h) (Or.inl ⟨by rfl, ?_⟩) (by assumption) ?_
          rotate_left
          · (intro w hSw; (try dsimp only at hSw); go_simp; (try with_reducible rfl))
          simp only [Act.put, List.setIfInBounds_toArray, List.set_cons_zero, List.set_cons_succ]
          refine wpAnyH_take (i := 16) (v := ?_) rfl (by kernel_rfl) (by kernel_rfl) (by kernel_rfl) (fun _ _ _ h => h) (Or.inl ⟨by rfl, ?_⟩) (by assumption) ?_
          rotate_left
          · (intro w hSw; (try dsimp only at hSw); go_simp; (try with_reducible rfl))
          simp only [Act.put, List.setIfInBounds_toArray, List.set_cons_zero, List.set_cons_succ]
          refine wpAnyH_ready (rs := [10]) (by kernel_rfl) (by simp) ?_
          refine AllReadyH.cons rfl (fun K hK => ?_) AllReadyH.nil
          go_simp
          refine (HC.out _ hdr).mono ?_
          rintro e w5 ⟨Q, qn, qc, rfl, hoq, hb5⟩
          dsimp only
          have hX5 := hdr.trans (hb5.mono hdr.size)
          have hql := hoq.len
          have hqv : qn = v := by rw [← hql]; simp [repP]
          have R := HR.out _ hX5
          have hw5 := hw3.trans (hX5.mono hw3.size)
          obtain ⟨gq, hgq, cq, -, iq⟩ := hoq.cell (k := 0) (by omega)
          have hrep : nth (repP v bs) 0 = ((bs.flatten.count 0 : Nat) : Int) := by rw [nth_get (by simp [repP]; omega)]; simp [repP]
          rw [hrep] at cq
          refine hK.out _ _ ⟨below_cell hX5 HX.out.1, below_cell hX5 HX.out.2, below_cell hX5 HP3.out⟩ (fun hS1 => ?_)
          clear hK K hS
          subst hgq
          clear hql hrep iq hoq
          obtain ⟨r0, hr0⟩ : ∃ r0, r0 = bs.flatten.count 0 := ⟨_, rfl⟩
          rw [← hr0] at cq hcb
          have HR0 := Lib.hid hr0
          clear hr0
          have hqv' : 0 < qn := by omega
          have hv0 : 0 < v := by omega
          refine wpAnyH_take (i := 11) (v := ?_) rfl (by kernel_rfl) (by kernel_rfl) (by kernel_rfl) (fun _ _ _ h => h) (Or.inl ⟨by rfl, ?_⟩) (by assumption) ?_
          rotate_left
          · (intro w hSw; (try dsimp only at hSw); go_simp; (try with_reducible rfl))
          simp only [Act.put, List.setIfInBounds_toArray, List.set_cons_zero, List.set_cons_succ]
          refine wpAnyH_ready (rs := [12]) (by kernel_rfl) (by simp) ?_
          refine AllReadyH.cons rfl (fun K hK => ?_) AllReadyH.nil
          go_simp
          refine hK.out _ _ hS1 (fun hS2 => ?_)
          clear hK K
          refine wpAnyH_take (i := 17) (v := ?_) rfl (by kernel_rfl) (by kernel_rfl) (by kernel_rfl) (fun _ _ _ h => h) (Or.inl ⟨by rfl, ?_⟩) (by assumption) ?_
          rotate_left
          · (intro w hSw; (try dsimp only at hSw); go_simp; (try with_reducible rfl))
          simp only [Act.put, List.setIfInBounds_toArray, List.set_cons_zero, List.set_cons_succ]
          refine wpAnyH_done (by kernel_rfl) ?_ _
          dsimp only [atEnd]
          clear hS1 hS2
          obtain ⟨y0, y1, y2, y3, y4⟩ := R.cells5
          have f0 := R.frozen 0
          have f1 := R.frozen 1
          have f2 := R.frozen 2
          have f3 := R.frozen 3
          have f4 := R.frozen 4
          obtain ⟨z0, z1, z2, z3, z4⟩ := (put5 (a := .int .i64 (v : Int)) (b := .int .i64 (i : Int)) (c := .int .i64 (r0 : Int)) (d := .int .i64 (k : Int)) (e := .int .i64 lam) R).cells5
          have hbz := below5 (a := .int .i64 (v : Int)) (b := .int .i64 (i : Int)) (c := .int .i64 (r0 : Int)) (d := .int .i64 (k : Int)) (e := .int .i64 lam) hw5 (Nat.le_refl w.heap.size)
          clear R cq HX HP3 cp3 x0 x1
          go_wp2
          exact bodyPost_ret (v := .tuple #[.agg #[.int .i64 (v : Int), .int .i64 (i : Int), .int .i64 (r0 : Int), .int .i64 (k : Int), .int .i64 lam], .bool true]) (by simp [results, Try.results41, go_sem, z0, z1, z2, z3, z4]) rfl ⟨k, lam, HB.out, by rw [hla.out, ← HR0.out]; rfl, hbz⟩
end Go.Proofs.Ytnfddnideaakgaa
