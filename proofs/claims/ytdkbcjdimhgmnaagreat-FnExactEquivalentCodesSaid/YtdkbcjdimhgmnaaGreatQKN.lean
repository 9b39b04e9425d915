/- The words of a code, in plain words. No condition beyond those stated. -/
import Derived.Test.YtdkbcjdimhgmnaaGreatQJI
set_option linter.unusedVariables false
set_option linter.unusedSimpArgs false
namespace Go.Proofs.YtdkbcjdimhgmnaaGreat
open Go.RowKit
def plusR (p : Int) (k : Nat) (a b : List Int) : List Int := (List.range a.length).map fun i => sumP p k 1 (nth a i) (nth b i)
theorem plusR_len (p : Int) (k : Nat) (a b : List Int) : (plusR p k a b).length = a.length := by simp [plusR]
theorem plusR_nth (p : Int) (k : Nat) (a b : List Int) {i : Nat} (h : i < a.length) : nth (plusR p k a b) i = sumP p k 1 (nth a i) (nth b i) := by
  unfold plusR
  rw [nth_map_range, if_pos h]
theorem VecQ.plus {p : Int} (h0 : 0 < p) (k : Nat) (a b : List Int) : VecQ (p ^ k) (plusR p k a b) := fun i hi => by
  rw [plusR_len] at hi
  rw [plusR_nth p k a b hi]
  exact sumP_bd h0 k _ _ _
def multR (p : Int) (k : Nat) (f : List Int) (q : Nat) (r : List Int) : List (List Int) := (List.range q).map fun (x : Nat) => scaleR p k f x r
theorem multR_len (p : Int) (k : Nat) (f : List Int) (q : Nat) (r : List Int) : (multR p k f q r).length = q := by simp [multR]
theorem multR_row (p : Int) (k : Nat) (f : List Int) {q x : Nat} (r : List Int) (h : x < q) : row (multR p k f q r) x = scaleR p k f x r := by
  rw [row_get (by rw [multR_len]; exact h)]
  simp [multR]
def sumsR (p : Int) (k : Nat) (f : List Int) (q : Nat) (r w : List Int) : List (List Int) := (List.range q).map fun (x : Nat) => plusR p k w (scaleR p k f x r)
theorem sumsR_len (p : Int) (k : Nat) (f : List Int) (q : Nat) (r w : List Int) : (sumsR p k f q r w).length = q := by simp [sumsR]
theorem sumsR_row (p : Int) (k : Nat) (f : List Int) {q x : Nat} (r w : List Int) (h : x < q) : row (sumsR p k f q r w) x = plusR p k w (scaleR p k f x r) := by
  rw [row_get (by rw [sumsR_len]; exact h)]
  simp [sumsR]
def wordsTo (p : Int) (k : Nat) (f : List Int) (q n : Nat) (rows : List (List Int)) : Nat → List (List Int)
  | 0 => [List.replicate n 0]
  | j + 1 => (wordsTo p k f q n rows j).flatMap fun w => sumsR p k f q (row rows j) w
theorem flatMap_len {L : List (List Int)} {F : List Int → List (List Int)} {q : Nat} (h : ∀ w, (F w).length = q) : (L.flatMap F).length = L.length * q := by
  induction L with
  | nil => simp
  | cons a L ih => rw [List.flatMap_cons, List.length_append, h, ih, List.length_cons, Nat.succ_mul]; omega
theorem row_cons_app {A B : List (List Int)} {i : Nat} : row (A ++ B) i = if i < A.length then row A i else row B (i - A.length) := by
  unfold row
  simp only [List.getD, List.getElem?_append]
  split <;> rfl
theorem flatMap_row {L : List (List Int)} {F : List Int → List (List Int)} {q : Nat} (h : ∀ w, (F w).length = q) : ∀ {i x : Nat}, i < L.length → x < q → row (L.flatMap F) (i * q + x) = row (F (row L i)) x := by
  induction L with
  | nil => intro i x hi; simp at hi
  | cons a L ih =>
    intro i x hi hx
    rw [List.flatMap_cons, row_cons_app, h]
    cases i with
    | zero => rw [if_pos (by omega), Nat.zero_mul, Nat.zero_add]; rfl
    | succ i =>
      rw [if_neg (by rw [Nat.succ_mul]; omega), show (i + 1) * q + x - q = i * q + x from by rw [Nat.succ_mul]; omega, ih (by simpa using hi) hx]
      rfl
theorem wordsTo_len (p : Int) (k : Nat) (f : List Int) (q n : Nat) (rows : List (List Int)) (j : Nat) : (wordsTo p k f q n rows j).length = q ^ j := by
  induction j with
  | zero => rfl
  | succ j ih => rw [wordsTo, flatMap_len (fun w => sumsR_len p k f q _ w), ih, Nat.pow_succ]
theorem flatMap_next {L : List (List Int)} {F : List Int → List (List Int)} {i : Nat} (hi : i < L.length) : (L.take i).flatMap F ++ F (row L i) = (L.take (i + 1)).flatMap F := by
  rw [List.take_succ_eq_append_getElem hi, List.flatMap_append, row_get hi]
  simp
theorem wordsTo_row {p : Int} (h0 : 0 < p) (k : Nat) (f : List Int) (q n : Nat) (rows : List (List Int)) : ∀ j i, i < q ^ j → (row (wordsTo p k f q n rows j) i).length = n ∧ VecQ (p ^ k) (row (wordsTo p k f q n rows j) i) := by
  intro j
  induction j with
  | zero =>
    intro i hi
    have : i = 0 := by simpa using hi
    subst this
    refine ⟨by simp [wordsTo, row], fun t ht => ?_⟩
    have e : row (wordsTo p k f q n rows 0) 0 = List.replicate n 0 := rfl
    rw [e] at ht ⊢
    rw [List.length_replicate] at ht
    rw [nth_get (by simpa using ht), List.getElem_replicate]
    exact ⟨Int.le_refl _, Int.pow_pos h0⟩
  | succ j ih =>
    intro i hi
    have hq : 0 < q := by
      rcases Nat.eq_zero_or_pos q with h | h
      · subst h; simp at hi
      · exact h
    have e : i = (i / q) * q + i % q := by rw [Nat.mul_comm]; exact (Nat.div_add_mod i q).symm
    have h1 : i / q < q ^ j := Nat.div_lt_of_lt_mul (by rw [Nat.mul_comm, ← Nat.pow_succ]; exact hi)
    have h2 := Nat.mod_lt i hq
    rw [wordsTo, e, flatMap_row (fun w => sumsR_len p k f q _ w) (by rw [wordsTo_len]; exact h1) h2, sumsR_row p k f _ _ h2]
    exact ⟨by rw [plusR_len]; exact (ih _ h1).1, VecQ.plus h0 k _ _⟩
set_option maxRecDepth 100000 in
set_option maxHeartbeats 1600000 in
theorem l18Plus_any (g : Nat) (p : Int) (k : Nat) (A : Option Addr) (n c : Nat) (f : List Int) (B : Option Addr) (m d : Nat) (v : List Int) (C : Option Addr) (d2 : Nat) (u : List Int) (w : World) (h : FAt w g p k A n c f) (hf : FldOk p k f) (hv : RI w B m v) (hu : RI w C m u) (hm : m ≤ 1048576) (hqv : VecQ (p ^ k) v) (hqu : VecQ (p ^ k) u) :
    Calls Tryz.prog 150 #[.pointer (some ⟨g, 0, none⟩), .slice B m d, .slice C m d2] w (RetI w 2 (plusR p k v u)) := by
  obtain ⟨p2, p61, k1, k6, hq64, -⟩ := hf.nums
  have HL := Lib.hid hv.len
  have HLu := Lib.hid hu.len
  have HV := Lib.hid hqv
  have HU := Lib.hid hqu
  have H := Lib.hid h
  have HBS := Lib.hid (fun c a b => sumP_bd (p := p) (by omega) k c a b)
  have HQ := Lib.hid hq64
  have HZ := Lib.hid (fun a h1 h2 => sumP_zero (p := p) (by omega) k (a := a) h1 h2 (c := 1))
  have hmk := run_make_row' (P := Tryz.prog) 22 2 (.int .i64 0) 8 Tryz.underlying22 int_info rfl .i64 .i64 m (by omega) (by omega)
  have ho0 := OI.made w w.heap.size 2 m (Nat.le_refl _) (by omega)
  have hb1 := below_alloc w (.cells (madeCells #[.int .i64 0] m) 2)
  have hi0 : OI (w.alloc (.cells (madeCells #[.int .i64 0] m) 2)) w.heap.size 2 (some ⟨w.heap.size, 0, none⟩) m m (mixP (List.replicate m 0) (fun i => nth (plusR p k v u) i) 0) := by rw [mixP_zero]; exact ho0
  clear hqv hqu hq64 h ho0
  go_enter Tryz.func150, Tryz.ntmps150
  go_wp2
  go_loopw [8] (fun i wr => ∃ j : Nat, j ≤ m ∧ i = .int .i64 j ∧ OI wr w.heap.size 2 (some ⟨w.heap.size, 0, none⟩) m m (mixP (List.replicate m 0) (fun i => nth (plusR p k v u) i) j) ∧ Below w.heap.size w wr) (fun i _ => m - (intOf i).toNat)
  case atStart => exact ⟨0, Nat.zero_le _, rfl, hi0, hb1⟩
  case round =>
    clear hi0 hb1
    obtain ⟨j, hj, rfl, ho, hw⟩ := hrel
    by_cases hlt : j < m
    · have hw0 := hw.trans (below_drewn' _ wr 1)
      have ho0 := ho.below (below_drewn wr 1)
      obtain ⟨ad, rfl, ca0, -⟩ := hv.get hlt
      obtain ⟨bd, rfl, cb0, -⟩ := hu.get hlt
      have ca := below_cell hw0 ca0
      have cb := below_cell hw0 cb0
      have ca1 := below_cell hw ca0
      have cb1 := below_cell hw cb0
      obtain ⟨z0, z1⟩ := HV.out j (by rw [HL.out]; exact hlt)
      obtain ⟨y0, y1⟩ := HU.out j (by rw [HLu.out]; exact hlt)
      have q64 := HQ.out
      obtain ⟨s1, s2⟩ := HBS.out 1 (nth v j) (nth u j)
      have HN := Lib.hid (mixP_set (List.replicate m 0) (fun i => nth (plusR p k v u) i) (j := j) (by simpa using hlt))
      have hpn : nth (plusR p k v u) j = sumP p k 1 (nth v j) (nth u j) := plusR_nth p k v u (by rw [HL.out]; exact hlt)
      have hz0 : nth u j = 0 → nth (plusR p k v u) j = nth v j := fun e => by rw [hpn, e]; exact HZ.out _ z0 z1
      have hi64 : I64 (nth (plusR p k v u) j) := by rw [hpn]; exact ⟨by omega, by omega⟩
      obtain ⟨g1, e1, x1, f1, -⟩ := ho.cell hlt
      cases e1
      by_cases hu0 : nth u j = 0
      · have hval := hz0 hu0
        have hset := ho.set j hi64
        rw [HN.out] at hset
        rw [hu0] at cb1
        rw [hval] at hset
        have hwb := hw.trans (below_far (w := wr) (B := w.heap.size) (g := w.heap.size) (p := j) (u := .int .i64 (nth v j)) (Nat.le_refl _) hw.size)
        clear hz0 hval hpn hi64 hu0 s1 s2 z0 z1 y0 y1 q64 ca cb ho ho0 hw hw0
        generalize nth v j = vj at *
        go_wp2
        go_roundw
        case rel => exact ⟨j + 1, by omega, by go_num, hset, hwb⟩
        case measure => simp [intOf]; omega
      · have hsum := fun W hb => l03Sum_any g p k A n c f (nth v j) (nth u j) 1 W (H.out.keep hb) p2 p61 q64 k6 ⟨z0, by omega⟩ ⟨y0, by omega⟩ ⟨by omega, by omega⟩
        rw [hpn] at hi64
        have HPN := Lib.hid hpn
        have hun : (nth u j == 0) = false := by simpa using hu0
        clear hz0 hpn hu0 s1 s2 z0 z1 y0 y1 q64
        generalize hr : sumP p k 1 (nth v j) (nth u j) = r at *
        clear hr
        generalize nth v j = vj at *
        generalize nth u j = uj at *
        simp only [← World.drew_is_drewN] at ca cb ho0 hw0
        go_wp2
        clear ca1 cb1 x1 f1
        go_region_held_law (fun w' => w'.cell? (ad.add j) = some (.int .i64 vj) ∧ w'.cell? (bd.add j) = some (.int .i64 uj))
          (first | with_reducible exact ⟨ca, cb⟩ | with_reducible exact ⟨ca2, cb2⟩ | with_reducible exact ⟨ca3, cb3⟩)
          ((go_at_call 207; (with_reducible refine (hsum _ hw0).mono ?_); rintro e w2 ⟨rfl, hb2⟩; have ho2 := ho0.below hb2; have hw2 := hw0.trans (hb2.mono hw0.size); have ca2 := below_cell hb2 ca; have cb2 := below_cell hb2 cb; have hwb := hw2.trans (below_far (w := w2) (B := w.heap.size) (g := w.heap.size) (p := j) (u := .int .i64 r) (Nat.le_refl _) hw2.size); have ca3 := below_cell hwb ca0; have cb3 := below_cell hwb cb0; obtain ⟨g1, e1, x1, f1, -⟩ := ho2.cell hlt; cases e1))
        have hset := ho2.set j hi64
        rw [← HPN.out] at hset
        rw [HN.out] at hset
        rw [HPN.out] at hset
        clear ca cb ca2 cb2 ca3 cb3 x1 f1 ho2 hw2 ho0 hw0 hb2 ho hw
        go_wp2
        go_roundw
        case rel => exact ⟨j + 1, by omega, by go_num, hset, hwb⟩
        case measure => simp [intOf]; omega
    · obtain rfl : m = j := by omega
      have HE := Lib.hid (show mixP (List.replicate m 0) (fun i => nth (plusR p k v u) i) m = plusR p k v u from by
        have := mixP_full (List.replicate m 0) (fun i => nth (plusR p k v u) i)
        rw [List.length_replicate] at this
        rw [this]
        refine nth_ext (by rw [plusR_len, HL.out]; simp) fun i hi => ?_
        rw [List.length_map, List.length_range] at hi
        rw [nth_map_range, if_pos hi])
      rw [HE.out] at ho
      go_wp2
      go_ret
      exact ⟨_, _, _, rfl, ho, hw⟩
theorem ORv.lit0 {w : World} {B : Nat} (hB : B ≤ w.heap.size) : ORv (w.alloc (.cells #[] 22)) B 22 2 (some ⟨w.heap.size, 0, none⟩) 0 0 [] [] :=
  ⟨by simpa using OS.lit w B 22 1 0 #[] hB rfl (by omega), rfl, fun j v z h => by simp at h, fun i j v u _ h => by simp at h, by decide⟩
theorem ORv.lit1w {w : World} {B : Nat} {v : Sl} {z : List Int} (ho : OI w B 2 v.1 v.2.1 v.2.2 z) (hB : B ≤ w.heap.size) :
    ORv (w.alloc (.cells #[.slice v.1 v.2.1 v.2.2] 22)) B 22 2 (some ⟨w.heap.size, 0, none⟩) 1 1 [v] [z] := by
  refine ⟨OS.lit w B 22 1 1 #[.slice v.1 v.2.1 v.2.2] hB rfl (by omega), rfl, fun j u y hu hy => ?_, fun i j u x hij hu hx => ?_, by decide⟩
  · cases j with
    | zero =>
      simp at hu hy
      subst hu; subst hy
      exact ho.alloc _
    | succ j => simp at hu
  · cases i with
    | zero =>
      cases j with
      | zero => exact absurd rfl hij
      | succ j => simp at hx
    | succ i => simp at hu
theorem take_rowW {L : List (List Int)} {x : Nat} (h : x < L.length) : L.take x ++ [row L x] = L.take (x + 1) := by
  rw [List.take_succ_eq_append_getElem h, row_get h]
set_option maxRecDepth 100000 in
set_option maxHeartbeats 4000000 in
theorem l18Words_any (g : Nat) (p : Int) (k : Nat) (A : Option Addr) (n c : Nat) (f : List Int) (M : Option Addr) (r rc m : Nat) (rows : List (List Int)) (q : Nat) (w : World) (h : CAt w g p k A n c f M r rc rows) (hf : FldOk p k f) (hq : p ^ k = (q : Int)) (hm : MatQ (p ^ k) m rows) (hr1 : 1 ≤ r) (hr8 : r ≤ 8) (hm32 : m ≤ 32) (hw : q ^ r ≤ 4096) :
    Calls Tryz.prog 90 #[.pointer (some ⟨g, 0, none⟩)] w (fun e w' => ∃ A' n' c', e = .returned (.slice A' n' c') ∧ RR w' A' n' (wordsTo p k f q m rows r) ∧ Below w.heap.size w w') := by
  obtain ⟨p2, p61, k1, k6, hq64, hq2⟩ := hf.nums
  have HL := Lib.hid h.rr.len
  have HM := Lib.hid hm
  have HQ := Lib.hid hq
  have HC := Lib.hid h
  have HW := Lib.hid (fun j i hi => wordsTo_row (p := p) (by omega) k f q m rows j i hi)
  have HWL := Lib.hid (fun j => wordsTo_len p k f q m rows j)
  have HWB := Lib.hid (show ∀ j, j ≤ r → q ^ j ≤ 4096 from fun j hj => Nat.le_trans (Nat.pow_le_pow_right (by rw [hq] at hq2; omega) hj) hw)
  obtain ⟨ad, Z, mz, cz, rfl, hc0, hz1, hz2, hrz⟩ := h.rr.get (k := 0) (by omega)
  have hc0 : w.cell? ad = some (.slice Z mz cz) := hc0
  obtain rfl : mz = m := by rw [← hrz.len]; exact (hm 0 (by rw [HL.out]; omega)).1
  have x3 := h.c3
  have hmk := run_make_row' (P := Tryz.prog) 22 2 (.int .i64 0) 8 Tryz.underlying22 int_info rfl .i64 .i64 mz (by omega) (by omega)
  have hsz := fun W hb => l03Size_any g p k A n c f W (h.fa.keep hb) p2 (by omega) k6
  clear h hm hrz hw
  go_enter Tryz.func90, Tryz.ntmps90
  go_wp2_with fail
  have b1 := below_alloc w (.cells (madeCells #[.int .i64 0] mz) 2)
  have b2 := b1.alloc (by simp) (.cells #[.slice (some ⟨w.heap.size, 0, none⟩) mz mz] 22)
  have ho1 := OI.made w w.heap.size 2 mz (Nat.le_refl _) (by omega)
  have hov : ORv ((w.alloc (.cells (madeCells #[.int .i64 0] mz) 2)).alloc (.cells #[.slice (some ⟨w.heap.size, 0, none⟩) mz mz] 22)) w.heap.size 22 2 (some ⟨w.heap.size + 1, 0, none⟩) 1 1 [(some ⟨w.heap.size, 0, none⟩, mz, mz)] [List.replicate mz 0] := by
    have := ORv.lit1w (w := w.alloc (.cells (madeCells #[.int .i64 0] mz) 2)) (B := w.heap.size) (v := (some ⟨w.heap.size, 0, none⟩, mz, mz)) (z := List.replicate mz 0) ho1 (by simp)
    simpa using this
  have hR0 : RR ((w.alloc (.cells (madeCells #[.int .i64 0] mz) 2)).alloc (.cells #[.slice (some ⟨w.heap.size, 0, none⟩) mz mz] 22)) (some ⟨w.heap.size + 1, 0, none⟩) 1 (wordsTo p k f q mz rows 0) := OR.reads ⟨_, hov⟩
  have hs := hsz _ b2
  clear hov ho1 b1 hmk hc0 x3
  generalize (w.alloc (.cells (madeCells #[.int .i64 0] mz) 2)).alloc (.cells #[.slice (some ⟨w.heap.size, 0, none⟩) mz mz] 22) = W1 at *
  refine hs.mono ?_
  rintro e w2 ⟨rfl, hd⟩
  have hw2 := b2.trans (hd.below.mono b2.size)
  have hR2 := hR0.keep hd.below
  dsimp only
  rw [HQ.out]
  clear hs hd hR0 b2 hsz
  have x3 := (HC.out.keep hw2).c3
  have hq0 : (q : Int) ≤ 64 := by rw [← HQ.out]; exact hq64
  rw [HQ.out] at hq64 hq2
  go_wp2
  go_loopw [3, 5, 6, 7, 8, 9, 10] (fun ws i _ _ _ _ _ wr => ∃ (j : Nat) (A3 : Option Addr) (n3 c3 : Nat), j ≤ r ∧ i = .int .i64 j ∧ ws = .slice A3 n3 c3 ∧ RR wr A3 n3 (wordsTo p k f q mz rows j) ∧ Below w.heap.size w wr) (fun _ i _ _ _ _ _ _ => r - (intOf i).toNat)
  case atStart => exact ⟨0, _, 1, 1, Nat.zero_le _, rfl, rfl, hR2, hw2⟩
  case round =>
    clear hR2 hw2 x3
    obtain ⟨j, A3, n3, c3, hj, rfl, rfl, hRW, hwr⟩ := hrel
    have x3 := (HC.out.keep hwr).c3
    have HN3 := Lib.hid (show n3 = q ^ j from by rw [← hRW.len]; exact HWL.out j)
    by_cases hlt : j < r
    · obtain ⟨ad', Zj, mj, cj, had, hcj, hj1, hj2, hrj⟩ := (HC.out.rr).get hlt
      cases had
      obtain rfl : mj = mz := by rw [← hrj.len]; exact (HM.out j (by rw [HL.out]; exact hlt)).1
      have hvj := Lib.hid ((HM.out j (by rw [HL.out]; exact hlt)).2)
      have hjr : (j : Int) < r := by omega
      have hm0 : ORv (wr.alloc (.cells #[] 22)) wr.heap.size 22 2 (some ⟨wr.heap.size, 0, none⟩) 0 0 [] ((multR p k f q (row rows j)).take 0) := ORv.lit0 (Nat.le_refl _)
      have hbm := below_alloc wr (.cells #[] 22)
      go_wp2
      generalize hW0 : wr = W0 at *
      clear hW0
      go_loopw [6, 7] (fun ms x wr => ∃ (t : Nat) (A6 : Option Addr) (c6 : Nat) (vs : List Sl), t ≤ q ∧ x = .int .i64 t ∧ ms = .slice A6 t c6 ∧ ORv wr W0.heap.size 22 2 A6 t c6 vs ((multR p k f q (row rows j)).take t) ∧ Below W0.heap.size W0 wr) (fun _ x _ => q - (intOf x).toNat)
      case atStart => exact ⟨0, _, 0, [], Nat.zero_le _, rfl, rfl, hm0, hbm⟩
      case round =>
        clear hm0 hbm
        obtain ⟨t, A6, c6, vs, ht, rfl, rfl, hov, hwi⟩ := hrel
        by_cases htq : t < q
        · have hww := hwr.trans (hwi.mono hwr.size)
          have hwd := hww.trans (below_drewn' _ wr 1)
          have hwid := hwi.trans (below_drewn' _ wr 1)
          have hod := hov.below (below_drewn wr 1)
          simp only [← World.drew_is_drewN] at hwd hod hwid
          have hsc := l17Scale_any g p k A n c f Zj mj cj (row rows j) t wr.drew (HC.out.keep hwd).fa hf (hrj.keep hwd) (by omega) hvj.out ⟨by omega, by omega⟩
          have y3 := (HC.out.keep hwd).c3
          have yj := below_cell hwd hcj
          have HS : ∀ {V : World}, Below w.heap.size w V → V.cell? ⟨g, 3, none⟩ = some (.slice (some ad) r rc) ∧ V.cell? (ad.add j) = some (.slice Zj mj cj) := fun hb => ⟨(HC.out.keep hb).c3, below_cell hb hcj⟩
          have hsz0 := hwi.size
          have htk := Lib.hid (take_rowW (L := multR p k f q (row rows j)) (x := t) (by rw [multR_len]; exact htq))
          rw [multR_row p k f _ htq] at htk
          clear hov hww x3
          go_wp2
          refine region_last (P := Tryz.prog) (S := fun w' => w'.cell? ⟨g, 3, none⟩ = some (.slice (some ad) r rc) ∧ w'.cell? (ad.add j) = some (.slice Zj mj cj)) (by kernel_rfl) (by simp only [List.getLast?_cons_cons, List.getLast?_singleton]; rfl) (by dsimp only [List.dropLast]) (by kernel_rfl) ⟨y3, yj⟩ ?_
          intro hS
          refine wpAnyH_take (i := 0) (v := ?_) rfl (by kernel_rfl) (by kernel_rfl) (by kernel_rfl) (fun _ _ _ h => h) (Or.inl ⟨by rfl, ?_⟩) (by assumption) ?_
          rotate_left
          · (intro w hSw; (try dsimp only at hSw); go_simp; (try with_reducible rfl))
          simp only [Act.put, List.setIfInBounds_toArray, List.set_cons_zero, List.set_cons_succ]
          refine wpAnyH_take (i := 1) (v := ?_) rfl (by kernel_rfl) (by kernel_rfl) (by kernel_rfl) (fun _ _ _ h => h) (Or.inl ⟨by rfl, ?_⟩) (by assumption) ?_
          rotate_left
          · (intro w hSw; (try dsimp only at hSw); go_simp; (try with_reducible rfl))
          simp only [Act.put, List.setIfInBounds_toArray, List.set_cons_zero, List.set_cons_succ]
          refine wpAnyH_take (i := 2) (v := ?_) rfl (by kernel_rfl) (by kernel_rfl) (by kernel_rfl) (fun _ _ _ h => h) (Or.inl ⟨by rfl, ?_⟩) (by assumption) ?_
          rotate_left
          · (intro w hSw; (try dsimp only at hSw); go_simp; (try with_reducible rfl))
          simp only [Act.put, List.setIfInBounds_toArray, List.set_cons_zero, List.set_cons_succ]
          refine wpAnyH_take (i := 3) (v := ?_) rfl (by kernel_rfl) (by kernel_rfl) (by kernel_rfl) (fun _ _ _ h => h) (Or.inl ⟨by rfl, ?_⟩) (by assumption) ?_
          rotate_left
          · (intro w hSw; (try dsimp only at hSw); go_simp; (try with_reducible rfl))
          simp only [Act.put, List.setIfInBounds_toArray, List.set_cons_zero, List.set_cons_succ]
          refine wpAnyH_take (i := 4) (v := ?_) rfl (by kernel_rfl) (by kernel_rfl) (by kernel_rfl) (fun _ _ _ h => h) (Or.inl ⟨by rfl, ?_⟩) (by assumption) ?_
          rotate_left
          · (intro w hSw; (try dsimp only at hSw); go_simp; (try with_reducible rfl))
          simp only [Act.put, List.setIfInBounds_toArray, List.set_cons_zero, List.set_cons_succ]
          refine wpAnyH_take (i := 5) (v := ?_) rfl (by kernel_rfl) (by kernel_rfl) (by kernel_rfl) (fun _ _ _ h => h) (Or.inl ⟨by rfl, ?_⟩) (by assumption) ?_
          rotate_left
          · (intro w hSw; (try dsimp only at hSw); go_simp; (try with_reducible rfl))
          simp only [Act.put, List.setIfInBounds_toArray, List.set_cons_zero, List.set_cons_succ]
          refine wpAnyH_take (i := 6) (v := ?_) rfl (by kernel_rfl) (by kernel_rfl) (by kernel_rfl) (fun _ _ _ h => h) (Or.inl ⟨by rfl, ?_⟩) (by assumption) ?_
          rotate_left
          · (intro w hSw; (try dsimp only at hSw); go_simp; (try with_reducible rfl))
          simp only [Act.put, List.setIfInBounds_toArray, List.set_cons_zero, List.set_cons_succ]
          refine wpAnyH_take (i := 7) (v := ?_) rfl (by kernel_rfl) (by kernel_rfl) (by kernel_rfl) (fun _ _ _ h => h) (Or.inl ⟨by rfl, ?_⟩) (by assumption) ?_
          rotate_left
          · (intro w hSw; (try dsimp only at hSw); go_simp; (try with_reducible rfl))
          simp only [Act.put, List.setIfInBounds_toArray, List.set_cons_zero, List.set_cons_succ]
          refine wpAnyH_take (i := 8) (v := ?_) rfl (by kernel_rfl) (by kernel_rfl) (by kernel_rfl) (fun _ _ _ h => h) (Or.inl ⟨by rfl, ?_⟩) (by assumption) ?_
          rotate_left
          · (intro w hSw; (try dsimp only at hSw); go_simp; (try with_reducible rfl))
          simp only [Act.put, List.setIfInBounds_toArray, List.set_cons_zero, List.set_cons_succ]
          refine wpAnyH_take (i := 9) (v := ?_) rfl (by kernel_rfl) (by kernel_rfl) (by kernel_rfl) (fun _ _ _ h => h) (Or.inl ⟨by rfl, ?_⟩) (by assumption) ?_
          rotate_left
          · (intro w hSw; (try dsimp only at hSw); go_simp; (try with_reducible rfl))
          simp only [Act.put, List.setIfInBounds_toArray, List.set_cons_zero, List.set_cons_succ]
          refine wpAnyH_take (i := 10) (v := ?_) rfl (by kernel_rfl) (by kernel_rfl) (by kernel_rfl) (fun _ _ _ h => h) (Or.inl ⟨by rfl, ?_⟩) (by assumption) ?_
          rotate_left
          · (intro w hSw; (try dsimp only at hSw); go_simp; (try with_reducible rfl))
          simp only [Act.put, List.setIfInBounds_toArray, List.set_cons_zero, List.set_cons_succ]
          refine wpAnyH_take (i := 11) (v := ?_) rfl (by kernel_rfl) (by kernel_rfl) (by kernel_rfl) (fun _ _ _ h => h) (Or.inl ⟨by rfl, ?_⟩) (by assumption) ?_
          rotate_left
          · (intro w hSw; (try dsimp only at hSw); go_simp; (try with_reducible rfl))
          simp only [Act.put, List.setIfInBounds_toArray, List.set_cons_zero, List.set_cons_succ]
          simp only [List.getElem_toArray, List.getElem_cons_succ, List.getElem_cons_zero]
          have HWD := Lib.hid hwd
          generalize wr.drew = V at *
          clear y3 yj hwd hwi
          refine wpAnyH_ready (rs := [12]) (by kernel_rfl) (by simp) ?_
          refine AllReadyH.cons rfl (fun K hK => ?_) AllReadyH.nil
          go_simp
          refine hsc.mono ?_
          rintro e w4 ⟨A7, n7, c7, rfl, ho7, hb4⟩
          dsimp only
          have hw4 := HWD.out.trans (hb4.mono HWD.out.size)
          have hwi4 := hwid.trans (hb4.mono hwid.size)
          have ho4 := hod.below hb4
          have hap := hod.apart_new (v := (A7, n7, c7)) (fun b hb => (ho7.os.lt hb).1)
          refine hK.out _ _ (HS hw4) (fun hS2 => ?_)
          clear hK K hS
          refine wpAnyH_ready (rs := [13]) (by kernel_rfl) (by simp) ?_
          refine AllReadyH.cons rfl (fun K hK => ?_) AllReadyH.nil
          go_simp
          have hba := below_alloc w4 (.cells #[.slice A7 n7 c7] 22)
          have hL5 := Blk.new w4 22 #[.slice A7 n7 c7]
          have ho5 := ho4.below hba
          have ho75 := ho7.below hba
          have hwi5 := hwi4.trans (hba.mono hwi4.size)
          have hw5 := hw4.trans (hba.mono hw4.size)
          refine hK.out _ _ (HS hw5) (fun hS3 => ?_)
          clear hK K hS2
          generalize w4.alloc _ = w5 at *
          generalize w4.heap.size = g5 at *
          refine wpAnyH_ready (rs := [14]) (by kernel_rfl) (by simp) ?_
          refine AllReadyH.cons rfl (fun K hK => ?_) AllReadyH.nil
          refine step_of_list (by rfl) ?_
          refine app_rowR _ (by rfl) (.tmp 39) (.tmp 52) (by rfl) W0.heap.size A6 t c6 vs _ (by rfl) ho5 (A7, n7, c7) _ (ho75.more (show W0.heap.size ≤ V.heap.size from hwid.size)) hap g5 (by rfl) (hL5.cell 0) (by omega) hwi5.size ?_
          intro A8 c8 w8 ho8 hg8 hf8
          refine list_onlyK ?_
          have hwi8 := below_own hwi5 hg8 hwi5.size (fun b hb => (ho5.os.lt hb).1)
          have hw8 := hwr.trans (hwi8.mono hwr.size)
          rw [htk.out] at ho8
          refine hK.out _ _ (HS hw8) (fun hS4 => ?_)
          clear hK K hS3
          refine wpAnyH_done (by kernel_rfl) ?_ _
          dsimp only [atEnd]
          clear hS4 hg8 hf8 ho5 ho75 hap ho4 hod hL5 hba hb4 ho7
          go_wp2
          go_roundw
          case rel => exact ⟨t + 1, _, _, _, by omega, by go_num, rfl, ho8, hwi8⟩
          case measure => simp [intOf]; omega
        · obtain rfl : q = t := by omega
          have hRM : RR wr A6 q (multR p k f q (row rows j)) := by
            have := OR.reads ⟨_, hov⟩
            rwa [List.take_of_length_le (by rw [multR_len]; exact Nat.le_refl _)] at this
          have hRW1 := hRW.keep hwi
          have hw1 := hwr.trans (hwi.mono hwr.size)
          have hmr := Lib.hid (fun x (hx : x < q) => multR_row p k f (row rows j) hx)
          have hnx : ORv (wr.alloc (.cells #[] 22)) wr.heap.size 22 2 (some ⟨wr.heap.size, 0, none⟩) 0 0 [] (((wordsTo p k f q mj rows j).take 0).flatMap fun w => sumsR p k f q (row rows j) w) := ORv.lit0 (Nat.le_refl _)
          have hbx := below_alloc wr (.cells #[] 22)
          clear hov hwi hRW hwr
          go_wp2
          generalize hW1 : wr = V0 at *
          clear hW1
          go_loopw [8, 9, 10] (fun nx i _ wr => ∃ (y : Nat) (A8 : Option Addr) (n8 c8 : Nat) (vs : List Sl), y ≤ n3 ∧ n8 = y * q ∧ i = .int .i64 y ∧ nx = .slice A8 n8 c8 ∧ ORv wr V0.heap.size 22 2 A8 n8 c8 vs (((wordsTo p k f q mj rows j).take y).flatMap fun w => sumsR p k f q (row rows j) w) ∧ Below V0.heap.size V0 wr) (fun _ i _ _ => n3 - (intOf i).toNat)
          case atStart => exact ⟨0, _, 0, 0, [], Nat.zero_le _, by omega, rfl, rfl, hnx, hbx⟩
          case round =>
            clear hnx hbx
            obtain ⟨y, A8, n8, c8, vs, hy, hn8, rfl, rfl, hov, hwi⟩ := hrel
            by_cases hyn : y < n3
            · have hyi : (y : Int) < n3 := by omega
              have hov0 : ORv wr V0.heap.size 22 2 A8 (y * q + 0) c8 vs ((((wordsTo p k f q mj rows j).take y).flatMap fun w => sumsR p k f q (row rows j) w) ++ (sumsR p k f q (row rows j) (row (wordsTo p k f q mj rows j) y)).take 0) := by rw [List.take_zero, List.append_nil, Nat.add_zero, ← hn8]; exact hov
              have HN8 := Lib.hid hn8
              clear hov hn8
              go_wp2
              go_loopw [8, 10] (fun nx x wr => ∃ (t : Nat) (A8 : Option Addr) (n8 c8 : Nat) (vs : List Sl), t ≤ q ∧ Hid (n8 = y * q + t) ∧ x = .int .i64 t ∧ nx = .slice A8 n8 c8 ∧ ORv wr V0.heap.size 22 2 A8 n8 c8 vs ((((wordsTo p k f q mj rows j).take y).flatMap fun w => sumsR p k f q (row rows j) w) ++ (sumsR p k f q (row rows j) (row (wordsTo p k f q mj rows j) y)).take t) ∧ Below V0.heap.size V0 wr) (fun _ x _ => q - (intOf x).toNat)
              case atStart => exact ⟨0, A8, n8, c8, vs, Nat.zero_le _, HN8, rfl, rfl, by have := HN8.out; subst this; exact hov0, hwi⟩
              case round =>
                clear hov0 hwi HN8
                obtain ⟨t, A8, n8, c8, vs, ht, HN8, rfl, rfl, hov, hwi⟩ := hrel
                by_cases htq : t < q
                · obtain ⟨wa, Zy, my, cy, rfl, hcy, hy1, hy2, hry⟩ := hRW1.get hyn
                  obtain ⟨ma, Zt, mt, ct, rfl, hct, ht1, ht2, hrt⟩ := hRM.get htq
                  obtain ⟨wl1, wl2⟩ := HW.out j y (by rw [← HN3.out]; exact hyn)
                  obtain rfl : my = mj := by rw [← hry.len]; exact wl1
                  rw [hmr.out t htq] at hrt
                  obtain rfl : mt = my := by rw [← hrt.len, scaleR_len, hrj.len]
                  have hww := hw1.trans (hwi.mono hw1.size)
                  have hwd := hww.trans (below_drewn' _ wr 1)
                  have hwid := hwi.trans (below_drewn' _ wr 1)
                  have hod := hov.below (below_drewn wr 1)
                  simp only [← World.drew_is_drewN] at hwd hod hwid
                  have hsc := l18Plus_any g p k A n c f Zy mt cy (row (wordsTo p k f q mt rows j) y) Zt ct (scaleR p k f t (row rows j)) wr.drew (HC.out.keep hwd).fa hf (hry.keep hwid) (hrt.keep hwid) (by omega) wl2 (VecQ.scale (by omega) f _ _)
                  have yy := below_cell hwid hcy
                  have yt := below_cell hwid hct
                  have HS : ∀ {V : World}, Below V0.heap.size V0 V → V.cell? (wa.add y) = some (.slice Zy mt cy) ∧ V.cell? (ma.add t) = some (.slice Zt mt ct) := fun hb => ⟨below_cell hb hcy, below_cell hb hct⟩
                  have hsz0 := hwi.size
                  have htk := Lib.hid (show ((((wordsTo p k f q mt rows j).take y).flatMap fun w => sumsR p k f q (row rows j) w) ++ (sumsR p k f q (row rows j) (row (wordsTo p k f q mt rows j) y)).take t) ++ [plusR p k (row (wordsTo p k f q mt rows j) y) (scaleR p k f t (row rows j))] = (((wordsTo p k f q mt rows j).take y).flatMap fun w => sumsR p k f q (row rows j) w) ++ (sumsR p k f q (row rows j) (row (wordsTo p k f q mt rows j) y)).take (t + 1) from by
                    rw [List.append_assoc, ← sumsR_row p k f _ _ htq, take_rowW (by rw [sumsR_len]; exact htq)])
                  have hnb := Lib.hid (show n8 + 1 ≤ 2199023255552 from by
                    have h1 := hov.slen
                    rw [List.length_append, flatMap_len (fun w => sumsR_len p k f q _ w), List.length_take, List.length_take, sumsR_len] at h1
                    have h2 := HWB.out (j + 1) (by omega)
                    rw [Nat.pow_succ, ← HN3.out] at h2
                    have h3 : min y (wordsTo p k f q mt rows j).length * q ≤ n3 * q := Nat.mul_le_mul (by omega) (Nat.le_refl _)
                    omega)
                  clear hov hww wl1 wl2
                  go_wp2
                  refine region_last (P := Tryz.prog) (S := fun w' => w'.cell? (wa.add y) = some (.slice Zy mt cy) ∧ w'.cell? (ma.add t) = some (.slice Zt mt ct)) (by kernel_rfl) (by simp only [List.getLast?_cons_cons, List.getLast?_singleton]; rfl) (by dsimp only [List.dropLast]) (by kernel_rfl) ⟨yy, yt⟩ ?_
                  intro hS
                  refine wpAnyH_take (i := 0) (v := ?_) rfl (by kernel_rfl) (by kernel_rfl) (by kernel_rfl) (fun _ _ _ h => h) (Or.inl ⟨by rfl, ?_⟩) (by assumption) ?_
                  rotate_left
                  · (intro w hSw; (try dsimp only at hSw); go_simp; (try with_reducible rfl))
                  simp only [Act.put, List.setIfInBounds_toArray, List.set_cons_zero, List.set_cons_succ]
                  refine wpAnyH_take (i := 1) (v := ?_) rfl (by kernel_rfl) (by kernel_rfl) (by kernel_rfl) (fun _ _ _ h => h) (Or.inl ⟨by rfl, ?_⟩) (by assumption) ?_
                  rotate_left
                  · (intro w hSw; (try dsimp only at hSw); go_simp; (try with_reducible rfl))
                  simp only [Act.put, List.setIfInBounds_toArray, List.set_cons_zero, List.set_cons_succ]
                  refine wpAnyH_take (i := 2) (v := ?_) rfl (by kernel_rfl) (by kernel_rfl) (by kernel_rfl) (fun _ _ _ h => h) (Or.inl ⟨by rfl, ?_⟩) (by assumption) ?_
                  rotate_left
                  · (intro w hSw; (try dsimp only at hSw); go_simp; (try with_reducible rfl))
                  simp only [Act.put, List.setIfInBounds_toArray, List.set_cons_zero, List.set_cons_succ]
                  refine wpAnyH_take (i := 3) (v := ?_) rfl (by kernel_rfl) (by kernel_rfl) (by kernel_rfl) (fun _ _ _ h => h) (Or.inl ⟨by rfl, ?_⟩) (by assumption) ?_
                  rotate_left
                  · (intro w hSw; (try dsimp only at hSw); go_simp; (try with_reducible rfl))
                  simp only [Act.put, List.setIfInBounds_toArray, List.set_cons_zero, List.set_cons_succ]
                  refine wpAnyH_take (i := 4) (v := ?_) rfl (by kernel_rfl) (by kernel_rfl) (by kernel_rfl) (fun _ _ _ h => h) (Or.inl ⟨by rfl, ?_⟩) (by assumption) ?_
                  rotate_left
                  · (intro w hSw; (try dsimp only at hSw); go_simp; (try with_reducible rfl))
                  simp only [Act.put, List.setIfInBounds_toArray, List.set_cons_zero, List.set_cons_succ]
                  refine wpAnyH_take (i := 5) (v := ?_) rfl (by kernel_rfl) (by kernel_rfl) (by kernel_rfl) (fun _ _ _ h => h) (Or.inl ⟨by rfl, ?_⟩) (by assumption) ?_
                  rotate_left
                  · (intro w hSw; (try dsimp only at hSw); go_simp; (try with_reducible rfl))
                  simp only [Act.put, List.setIfInBounds_toArray, List.set_cons_zero, List.set_cons_succ]
                  refine wpAnyH_take (i := 6) (v := ?_) rfl (by kernel_rfl) (by kernel_rfl) (by kernel_rfl) (fun _ _ _ h => h) (Or.inl ⟨by rfl, ?_⟩) (by assumption) ?_
                  rotate_left
                  · (intro w hSw; (try dsimp only at hSw); go_simp; (try with_reducible rfl))
                  simp only [Act.put, List.setIfInBounds_toArray, List.set_cons_zero, List.set_cons_succ]
                  refine wpAnyH_take (i := 7) (v := ?_) rfl (by kernel_rfl) (by kernel_rfl) (by kernel_rfl) (fun _ _ _ h => h) (Or.inl ⟨by rfl, ?_⟩) (by assumption) ?_
                  rotate_left
                  · (intro w hSw; (try dsimp only at hSw); go_simp; (try with_reducible rfl))
                  simp only [Act.put, List.setIfInBounds_toArray, List.set_cons_zero, List.set_cons_succ]
                  refine wpAnyH_take (i := 8) (v := ?_) rfl (by kernel_rfl) (by kernel_rfl) (by kernel_rfl) (fun _ _ _ h => h) (Or.inl ⟨by rfl, ?_⟩) (by assumption) ?_
                  rotate_left
                  · (intro w hSw; (try dsimp only at hSw); go_simp; (try with_reducible rfl))
                  simp only [Act.put, List.setIfInBounds_toArray, List.set_cons_zero, List.set_cons_succ]
                  refine wpAnyH_take (i := 9) (v := ?_) rfl (by kernel_rfl) (by kernel_rfl) (by kernel_rfl) (fun _ _ _ h => h) (Or.inl ⟨by rfl, ?_⟩) (by assumption) ?_
                  rotate_left
                  · (intro w hSw; (try dsimp only at hSw); go_simp; (try with_reducible rfl))
                  simp only [Act.put, List.setIfInBounds_toArray, List.set_cons_zero, List.set_cons_succ]
                  refine wpAnyH_take (i := 10) (v := ?_) rfl (by kernel_rfl) (by kernel_rfl) (by kernel_rfl) (fun _ _ _ h => h) (Or.inl ⟨by rfl, ?_⟩) (by assumption) ?_
                  rotate_left
                  · (intro w hSw; (try dsimp only at hSw); go_simp; (try with_reducible rfl))
                  simp only [Act.put, List.setIfInBounds_toArray, List.set_cons_zero, List.set_cons_succ]
                  refine wpAnyH_take (i := 11) (v := ?_) rfl (by kernel_rfl) (by kernel_rfl) (by kernel_rfl) (fun _ _ _ h => h) (Or.inl ⟨by rfl, ?_⟩) (by assumption) ?_
                  rotate_left
                  · (intro w hSw; (try dsimp only at hSw); go_simp; (try with_reducible rfl))
                  simp only [Act.put, List.setIfInBounds_toArray, List.set_cons_zero, List.set_cons_succ]
                  simp only [List.getElem_toArray, List.getElem_cons_succ, List.getElem_cons_zero]
                  generalize wr.drew = V at *
                  clear yy yt hwi
                  refine wpAnyH_ready (rs := [12]) (by kernel_rfl) (by simp) ?_
                  refine AllReadyH.cons rfl (fun K hK => ?_) AllReadyH.nil
                  go_simp
                  refine hsc.mono ?_
                  rintro e w4 ⟨A7, n7, c7, rfl, ho7, hb4⟩
                  dsimp only
                  have hwi4 := hwid.trans (hb4.mono hwid.size)
                  have ho4 := hod.below hb4
                  have hap := hod.apart_new (v := (A7, n7, c7)) (fun b hb => (ho7.os.lt hb).1)
                  refine hK.out _ _ (HS hwi4) (fun hS2 => ?_)
                  clear hK K hS
                  refine wpAnyH_ready (rs := [13]) (by kernel_rfl) (by simp) ?_
                  refine AllReadyH.cons rfl (fun K hK => ?_) AllReadyH.nil
                  go_simp
                  have hba := below_alloc w4 (.cells #[.slice A7 n7 c7] 22)
                  have hL5 := Blk.new w4 22 #[.slice A7 n7 c7]
                  have ho5 := ho4.below hba
                  have ho75 := ho7.below hba
                  have hwi5 := hwi4.trans (hba.mono hwi4.size)
                  refine hK.out _ _ (HS hwi5) (fun hS3 => ?_)
                  clear hK K hS2
                  generalize w4.alloc _ = w5 at *
                  generalize w4.heap.size = g5 at *
                  refine wpAnyH_ready (rs := [14]) (by kernel_rfl) (by simp) ?_
                  refine AllReadyH.cons rfl (fun K hK => ?_) AllReadyH.nil
                  refine step_of_list (by rfl) ?_
                  refine app_rowR _ (by rfl) (.tmp 66) (.tmp 79) (by rfl) V0.heap.size A8 n8 c8 vs _ (by rfl) ho5 (A7, n7, c7) _ (ho75.more (show V0.heap.size ≤ V.heap.size from hwid.size)) hap g5 (by rfl) (hL5.cell 0) hnb.out hwi5.size ?_
                  intro A9 c9 w8 ho8 hg8 hf8
                  refine list_onlyK ?_
                  have hwi8 := below_own hwi5 hg8 hwi5.size (fun b hb => (ho5.os.lt hb).1)
                  rw [htk.out] at ho8
                  refine hK.out _ _ (HS hwi8) (fun hS4 => ?_)
                  clear hK K hS3
                  refine wpAnyH_done (by kernel_rfl) ?_ _
                  dsimp only [atEnd]
                  clear hS4 hg8 hf8 ho5 ho75 hap ho4 hod hL5 hba hb4 ho7
                  have HN9 : Hid (n8 + 1 = y * q + (t + 1)) := Lib.hid (by have := HN8.out; omega)
                  go_wp2
                  go_roundw
                  case rel => exact ⟨t + 1, A9, n8 + 1, c9, _, by omega, HN9, by go_num, rfl, ho8, hwi8⟩
                  case measure => simp [intOf]; omega
                · obtain rfl : q = t := by omega
                  have hfin : ORv wr V0.heap.size 22 2 A8 n8 c8 vs (((wordsTo p k f q mj rows j).take (y + 1)).flatMap fun w => sumsR p k f q (row rows j) w) := by
                    rw [← flatMap_next (F := fun w => sumsR p k f q (row rows j) w) (by rw [HWL.out, ← HN3.out]; exact hyn)]
                    have e : (sumsR p k f q (row rows j) (row (wordsTo p k f q mj rows j) y)).take q = sumsR p k f q (row rows j) (row (wordsTo p k f q mj rows j) y) := List.take_of_length_le (by rw [sumsR_len]; exact Nat.le_refl _)
                    rw [e] at hov
                    exact hov
                  have hn9 : n8 = (y + 1) * q := by have := HN8.out; rw [Nat.succ_mul]; exact this
                  have HN9 := Lib.hid hn9
                  have hn3b : n3 ≤ 4096 := by rw [HN3.out]; exact HWB.out j hj
                  clear hov hn9
                  go_wp2
                  go_roundw
                  case rel => exact ⟨y + 1, A8, n8, c8, vs, by omega, HN9.out, by go_num, rfl, hfin, hwi⟩
                  case measure => simp [intOf]; omega
            · obtain rfl : n3 = y := by omega
              have hfin : RR wr A8 n8 (wordsTo p k f q mj rows (j + 1)) := by
                have := OR.reads ⟨_, hov⟩
                rw [List.take_of_length_le (by rw [HWL.out, ← HN3.out]; exact Nat.le_refl _)] at this
                exact this
              have hw2 := hw1.trans (hwi.mono hw1.size)
              have x3 := (HC.out.keep hw2).c3
              clear hov hn8 hRW1 hRM
              go_wp2
              go_roundw
              case rel => exact ⟨j + 1, A8, n8, c8, by omega, by go_num, rfl, hfin, hw2⟩
              case measure => simp [intOf]; omega
    · obtain rfl : r = j := by omega
      clear HN3
      go_wp2
      go_ret
      exact ⟨_, _, _, rfl, hRW, hwr⟩
end Go.Proofs.YtdkbcjdimhgmnaaGreat
