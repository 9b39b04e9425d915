/- Plain arithmetic of a finite field whose elements are numbers: digits, sums, products, inverses. No condition beyond those stated. -/
import Derived.Test.YtnmcmologlgccaaGreatSZAM
import Derived.Deep.AppendLies
set_option linter.unusedVariables false
set_option linter.unusedSimpArgs false
namespace Go.Proofs.YtnmcmologlgccaaGreat
open Go.RowKit
/-! digits -/
def divN (a p : Int) : Nat → Int
  | 0 => a
  | j + 1 => divN a p j / p
def digsP (a p : Int) (n : Nat) : List Int := (List.range n).map fun i => divN a p i % p
def numR : List Int → Int → Int
  | [], _ => 0
  | d :: l, p => d + p * numR l p
theorem digs_len (a p : Int) (n : Nat) : (digsP a p n).length = n := by simp [digsP]
theorem digs_nth (a p : Int) (n i : Nat) : nth (digsP a p n) i = if i < n then divN a p i % p else 0 := nth_map_range n _ i
theorem digs_dg {p : Int} (h0 : 0 < p) (a : Int) (n : Nat) : Dg p (digsP a p n) := fun t => by
  rw [digs_nth]
  split
  · exact ⟨Int.emod_nonneg _ (by omega), Int.emod_lt_of_pos _ h0⟩
  · omega
theorem divN_succ (a p : Int) (i : Nat) : divN a p (i + 1) = divN (a / p) p i := by
  induction i with
  | zero => rfl
  | succ i ih => rw [divN, ih, divN]
theorem digs_succ (a p : Int) (n : Nat) : digsP a p (n + 1) = a % p :: digsP (a / p) p n := by
  unfold digsP
  rw [List.range_succ_eq_map, List.map_cons, List.map_map]
  congr 1
  exact List.map_congr_left fun i _ => by simp only [Function.comp]; rw [Nat.succ_eq_add_one, divN_succ]
theorem digs_take {a p : Int} {n j : Nat} (h : j < n) : (digsP a p n).take (j + 1) = (digsP a p n).take j ++ [divN a p j % p] := by
  rw [List.take_succ_eq_append_getElem (by rw [digs_len]; exact h)]
  congr 2
  rw [← nth_get, digs_nth, if_pos h]
theorem pow_succ_int (p : Int) (n : Nat) : p ^ (n + 1) = p * p ^ n := by rw [Int.pow_succ, Int.mul_comm]
theorem Dg.tail {p d : Int} {l : List Int} (h : Dg p (d :: l)) : Dg p l := fun t => h (t + 1)
theorem num_bd {p : Int} (h0 : 0 < p) : ∀ {l : List Int}, Dg p l → 0 ≤ numR l p ∧ numR l p < p ^ l.length
  | [], _ => by simp [numR]
  | d :: l, h => by
    obtain ⟨a, b⟩ := num_bd h0 h.tail
    obtain ⟨c, e⟩ := h 0
    change 0 ≤ d at c
    change d < p at e
    rw [numR, List.length_cons, pow_succ_int]
    have h1 : 0 ≤ p * numR l p := Int.mul_nonneg (by omega) a
    have h2 : p * (numR l p + 1) ≤ p * p ^ l.length := Int.mul_le_mul_of_nonneg_left (by omega) (by omega)
    rw [Int.mul_add] at h2
    omega
theorem digs_num {p : Int} (h0 : 0 < p) : ∀ {l : List Int}, Dg p l → digsP (numR l p) p l.length = l
  | [], _ => rfl
  | d :: l, h => by
    obtain ⟨c, e⟩ := h 0
    change 0 ≤ d at c
    change d < p at e
    rw [List.length_cons, digs_succ, numR]
    have h1 : (d + p * numR l p) % p = d := by rw [Int.add_mul_emod_self_left, Int.emod_eq_of_lt c e]
    have h2 : (d + p * numR l p) / p = numR l p := by rw [Int.add_mul_ediv_left _ _ (by omega), Int.ediv_eq_zero_of_lt c e, Int.zero_add]
    rw [h1, h2, digs_num h0 h.tail]
theorem num_zero {p : Int} (h0 : 0 < p) : ∀ {l : List Int}, Dg p l → (numR l p = 0 ↔ ∀ t, nth l t = 0)
  | [], _ => by simp [numR, nth]
  | d :: l, h => by
    have ih := num_zero h0 h.tail
    obtain ⟨a, -⟩ := num_bd h0 h.tail
    obtain ⟨c, -⟩ := h 0
    change 0 ≤ d at c
    have h1 : 0 ≤ p * numR l p := Int.mul_nonneg (by omega) a
    rw [numR]
    constructor
    · intro e t
      have e1 : d = 0 := by omega
      have e2 : p * numR l p = 0 := by omega
      cases t with
      | zero => exact e1
      | succ t =>
        have e3 : numR l p = 0 := (Int.mul_eq_zero.1 e2).resolve_left (by omega)
        exact ih.1 e3 t
    · intro e
      have e1 : d = 0 := e 0
      have e2 : numR l p = 0 := ih.2 fun t => e (t + 1)
      rw [e1, e2, Int.mul_zero]; rfl
theorem num_drop {l : List Int} {p : Int} {k : Nat} (h : k < l.length) : numR (l.drop k) p = numR (l.drop (k + 1)) p * p + nth l k := by
  rw [List.drop_eq_getElem_cons h, numR, nth_get h, Int.mul_comm]; omega
theorem dg_drop {p : Int} {l : List Int} (h : Dg p l) (k : Nat) : Dg p (l.drop k) := fun t => by
  have : nth (l.drop k) t = nth l (k + t) := by simp [nth, List.getD]
  rw [this]; exact h _
theorem pow_mono {p : Int} (h0 : 0 < p) {m n : Nat} (h : m ≤ n) : p ^ m ≤ p ^ n := by
  induction n with
  | zero => obtain rfl : m = 0 := by omega
            exact Int.le_refl _
  | succ n ih =>
    by_cases e : m = n + 1
    · rw [e]; exact Int.le_refl _
    · have h1 := ih (by omega)
      rw [pow_succ_int]
      have h2 : 1 * p ^ n ≤ p * p ^ n := Int.mul_le_mul_of_nonneg_right (by omega) (Int.le_of_lt (Int.pow_pos h0))
      omega
/-! the primes below 64 -/
def PR : List Int := [2, 3, 5, 7, 11, 13, 17, 19, 23, 29, 31, 37, 41, 43, 47, 53, 59, 61]
theorem PR_bd {p : Int} (h : p ∈ PR) : 2 ≤ p ∧ p ≤ 61 := by
  have : (PR.all fun p => decide (2 ≤ p ∧ p ≤ 61)) = true := by decide +kernel
  simpa using List.all_eq_true.1 this p h
/-! a field -/
structure FldOk (p : Int) (k : Nat) (f : List Int) : Prop where
  pr : p ∈ PR
  k1 : 1 ≤ k
  q64 : p ^ k ≤ 64
  len : f.length = k + 1
  mon : nth f k = 1
  dg : Dg p f
  irr : ∀ d : Nat, 1 ≤ d → 2 * d ≤ k → ∀ n : Int, 0 ≤ n → n < p ^ d → ∃ t, nth (remP p (digsP n p d ++ [1]) f) t ≠ 0
theorem FldOk.p2 {p : Int} {k : Nat} {f : List Int} (h : FldOk p k f) : 1 < p := by have := PR_bd h.pr; omega
theorem nth_snoc {l : List Int} {x : Int} : nth (l ++ [x]) l.length = x := by simp [nth, List.getD]
def mulV (f : List Int) (k : Nat) (x y : Nat → Int) (s : Nat) : Int := sumN k fun i => sumN k fun j => x i * y j * powX f (i + j) s
def mulP (p : Int) (k : Nat) (f : List Int) (a b : Int) : Int := numR ((List.range k).map fun s => mulV f k (nth (digsP a p k)) (nth (digsP b p k)) s % p) p
def sumP (p : Int) (k : Nat) (c a b : Int) : Int := numR ((List.range k).map fun i => (nth (digsP a p k) i + c * nth (digsP b p k) i) % p) p
theorem map_dg {p : Int} (h0 : 0 < p) (k : Nat) (F : Nat → Int) : Dg p ((List.range k).map fun s => F s % p) := fun t => by
  rw [nth_map_range]
  split
  · exact ⟨Int.emod_nonneg _ (by omega), Int.emod_lt_of_pos _ h0⟩
  · omega
section
variable {p : Int} (h0 : 0 < p) (k : Nat) (f : List Int)
include h0
theorem mulP_bd (a b : Int) : 0 ≤ mulP p k f a b ∧ mulP p k f a b < p ^ k := by
  have := num_bd h0 (map_dg h0 k (mulV f k (nth (digsP a p k)) (nth (digsP b p k))))
  rwa [List.length_map, List.length_range] at this
theorem sumP_bd (c a b : Int) : 0 ≤ sumP p k c a b ∧ sumP p k c a b < p ^ k := by
  have := num_bd h0 (map_dg h0 k fun i => nth (digsP a p k) i + c * nth (digsP b p k) i)
  rwa [List.length_map, List.length_range] at this
end
section
variable {p : Int} {k : Nat} {f : List Int} (h : FldOk p k f)
include h
theorem rem_digit {z : List Int} (hz : Dg p z) (hl : k ≤ z.length) {s : Nat} (hs : s < k) : nth (remP p f z) s = linF z (fun t => powX f t s) % p := by
  have p0 : 0 < p := by have := h.p2; omega
  by_cases e : z.length = k
  · have e1 : remP p f z = z := by
      unfold remP
      rw [h.len, e, show k + 1 - 1 = k from by omega, Nat.sub_self, remTo]
      exact List.take_of_length_le (by omega)
    rw [e1]
    have e2 : linF z (fun t => powX f t s) = nth z s := by
      unfold linF
      rw [e, sumN_congr (g := fun t => if t = s then nth z s else 0) (fun t ht => by
        show nth _ t * powX f t s = _
        rw [powX_low h.len h.k1 ht hs]
        by_cases e : t = s
        · subst e; simp
        · rw [if_neg (fun q => e q.symm), if_neg e, Int.mul_zero]), sumN_at hs]
    rw [e2, Int.emod_eq_of_lt (hz s).1 (hz s).2]
  · obtain ⟨n, hn⟩ : ∃ n, z.length = n + 1 := ⟨z.length - 1, by omega⟩
    obtain ⟨a, b, q, -, c⟩ := remP_lin h.p2 h.len h.mon hn (by omega) hz
    have c1 := c fun t => powX f t s
    have c2 : sumN (n + 1 - k) (fun o => q o * sumN (k + 1) fun t => nth f t * powX f (o + t) s) = 0 := sumN_zero fun o _ => by rw [powX_rec h.len h.k1 h.mon o hs, Int.mul_zero]
    rw [c2, Int.add_zero] at c1
    have e2 : linF (remP p f z) (fun t => powX f t s) = nth (remP p f z) s := by
      unfold linF
      rw [a, sumN_congr (g := fun t => if t = s then nth (remP p f z) s else 0) (fun t ht => by
        show nth _ t * powX f t s = _
        rw [powX_low h.len h.k1 ht hs]
        by_cases e : t = s
        · subst e; simp
        · rw [if_neg (fun q => e q.symm), if_neg e, Int.mul_zero]), sumN_at hs]
    rw [e2] at c1
    have := Cg.iff.1 c1
    rw [Int.emod_eq_of_lt (b s).1 (b s).2] at this
    exact this
theorem remP_len {z : List Int} (hl : k ≤ z.length) : (remP p f z).length = k := by
  unfold remP
  rw [List.length_take, remTo_len, h.len]; omega
theorem rem_mul {a b : Int} {z : List Int} (hz : Dg p z) (hl : k ≤ z.length)
    (hc : ∀ ψ : Nat → Int, Cg p (linF z ψ) (sumN k fun i => sumN k fun j => nth (digsP a p k) i * nth (digsP b p k) j * ψ (i + j))) : numR (remP p f z) p = mulP p k f a b := by
  unfold mulP
  congr 1
  refine nth_ext (by rw [remP_len h hl]; simp) fun s hs => ?_
  rw [remP_len h hl] at hs
  rw [rem_digit h hz hl hs, nth_map_range, if_pos hs]
  exact Cg.iff.1 (hc fun t => powX f t s)
theorem FldOk.qnat : ∃ q : Nat, p ^ k = (q : Int) ∧ 2 ≤ q ∧ q ≤ 64 := by
  have p0 := h.p2
  have h1 : p ^ 1 ≤ p ^ k := pow_mono (by omega) h.k1
  rw [Int.pow_succ, Int.pow_zero, Int.one_mul] at h1
  have h2 := h.q64
  exact ⟨(p ^ k).toNat, by omega, by omega, by omega⟩
end
def CapP (p : Int) (e : Nat) (lim r : Int) : Prop := (p ^ e ≤ lim ∧ r = p ^ e) ∨ (lim < p ^ e ∧ lim < r)
theorem CapP.iff {p : Int} {e : Nat} {lim r : Int} (h : CapP p e lim r) : r ≤ lim ↔ p ^ e ≤ lim := by
  rcases h with ⟨a, b⟩ | ⟨a, b⟩ <;> omega
theorem CapP.eq {p : Int} {e : Nat} {lim r : Int} (h : CapP p e lim r) (k : p ^ e ≤ lim) : r = p ^ e := by
  rcases h with ⟨a, b⟩ | ⟨a, b⟩ <;> omega
theorem mul_bdF {a b x y : Int} (h1 : 0 ≤ a) (h2 : a ≤ x) (h3 : 0 ≤ b) (h4 : b ≤ y) : 0 ≤ a * b ∧ a * b ≤ x * y :=
  ⟨Int.mul_nonneg h1 h3, Int.mul_le_mul h2 h4 h3 (by omega)⟩
set_option maxHeartbeats 400000 in
theorem powerUpTo_any (p e lim : Int) (w : World) (hp : 2 ≤ p) (hp2 : p ≤ 1000000) (he : 0 ≤ e) (he2 : e ≤ 9223372036854775807) (hl : 1 ≤ lim) (hl2 : lim ≤ 4096) :
    Calls Tryz.prog 199 #[.int .i64 p, .int .i64 e, .int .i64 lim] w fun en w' => ∃ r, en = .returned (.int .i64 r) ∧ CapP p e.toNat lim r ∧ w = w' := by
  go_enter Tryz.func199, Tryz.ntmps199
  go_wp2
  go_loop [1, 7] (fun i x => ∃ j : Nat, (j : Int) ≤ e ∧ i = .int .i64 (e - j) ∧ x = .int .i64 (p ^ j) ∧ (j = 0 ∨ p ^ (j - 1) ≤ lim)) (fun i _ => (intOf i).toNat)
  case atStart => exact ⟨0, by omega, by go_num, by rw [Int.pow_zero], .inl rfl⟩
  case round =>
    obtain ⟨j, hj, rfl, rfl, hprev⟩ := hrel
    have hp1 : 1 ≤ p ^ j := by have := Int.pow_pos (n := p) (m := j) (by omega); omega
    have hub : p ^ j ≤ 4096 * 1000000 := by
      rcases hprev with e0 | e0
      · subst e0; simp
      · by_cases ej : j = 0
        · subst ej; simp
        · obtain ⟨i, rfl⟩ : ∃ i, j = i + 1 := ⟨j - 1, by omega⟩
          rw [show i + 1 - 1 = i from by omega] at e0
          rw [pow_succ_int, Int.mul_comm]
          have h0 : 0 ≤ p ^ i := Int.le_of_lt (Int.pow_pos (by omega))
          exact (mul_bdF h0 (by omega) (by omega) hp2).2
    clear hprev
    by_cases hlt : (j : Int) < e
    · by_cases hle : p ^ j ≤ lim
      · have hb := mul_bdF (a := p ^ j) (b := p) (x := 4096) (y := 1000000) (by omega) (by omega) (by omega) hp2
        obtain ⟨hb1, hb2⟩ := hb
        have HS := Lib.hid (show p ^ (j + 1) = p ^ j * p from Int.pow_succ _ _)
        have HL := Lib.hid hle
        have HE : j + 1 - 1 = j := by omega
        have HEH := Lib.hid HE
        clear HE
        have hlt' : 0 < e - j := by omega
        generalize hx : p ^ j = x at *
        have HX := Lib.hid hx
        clear hx
        go_wp2
        go_round
        case rel => exact ⟨j + 1, by omega, by go_num, by rw [HS.out], .inr (by rw [HEH.out, HX.out]; exact HL.out)⟩
        case measure => simp [intOf]; omega
      · have hr : CapP p e.toNat lim (p ^ j) := .inr ⟨Int.lt_of_lt_of_le (by omega) (pow_mono (by omega) (show j ≤ e.toNat by omega)), by omega⟩
        have hlt' : 0 < e - j := by omega
        have HR := Lib.hid hr
        clear hr
        go_wp2
        go_ret
        exact ⟨_, rfl, HR.out, rfl⟩
    · have ej : j = e.toNat := by omega
      have hr : CapP p e.toNat lim (p ^ j) := by
        rw [← ej]
        unfold CapP
        omega
      have hlt' : e - j ≤ 0 := by omega
      have HR := Lib.hid hr
      clear hr ej
      go_wp2
      go_ret
      exact ⟨_, rfl, HR.out, rfl⟩
theorem divN_bd {a p : Int} (ha : 0 ≤ a) (hp : 1 ≤ p) (j : Nat) : 0 ≤ divN a p j ∧ divN a p j ≤ a := by
  induction j with
  | zero => exact ⟨ha, Int.le_refl _⟩
  | succ j ih => exact ⟨Int.ediv_nonneg ih.1 (by omega), Int.le_trans (Int.ediv_le_self _ ih.1) ih.2⟩
def digTo (a p : Int) (n j : Nat) : List Int := (digsP a p n).take j ++ List.replicate (n - j) 0
theorem digTo_zero (a p : Int) (n : Nat) : digTo a p n 0 = List.replicate n 0 := by simp [digTo]
theorem digTo_all (a p : Int) (n : Nat) : digTo a p n n = digsP a p n := by
  unfold digTo
  rw [Nat.sub_self, List.replicate_zero, List.append_nil, List.take_of_length_le (by rw [digs_len]; exact Nat.le_refl _)]
theorem digTo_step {a p : Int} {n j : Nat} (h : j < n) : (digTo a p n j).set j (divN a p j % p) = digTo a p n (j + 1) := by
  unfold digTo
  rw [List.set_append_right _ _ (by rw [List.length_take, digs_len]; omega), List.length_take, digs_len, Nat.min_eq_left (by omega), Nat.sub_self, digs_take h, List.append_assoc]
  congr 1
  obtain ⟨m, hm⟩ : ∃ m, n - j = m + 1 := ⟨n - j - 1, by omega⟩
  rw [hm, show n - (j + 1) = m from by omega, List.replicate_succ, List.set_cons_zero]; rfl
set_option maxHeartbeats 800000 in
theorem digitsOf_any (a p : Int) (n : Nat) (w : World) (ha : 0 ≤ a) (ha2 : a ≤ 1000000) (hp : 2 ≤ p) (hp2 : p ≤ 1000000) (hn : n ≤ 1000) :
    Calls Tryz.prog 178 #[.int .i64 a, .int .i64 p, .int .i64 n] w (RetI w 2 (digsP a p n)) := by
  have hmk := run_make_row' (P := Tryz.prog) 36 2 (.int .i64 0) 8 Tryz.underlying36 int_info rfl .i64 .i64 n (by omega) (by omega)
  have ho0 := OI.made w w.heap.size 2 n (Nat.le_refl _) (by omega)
  have hb0 := below_alloc w (.cells (madeCells #[.int .i64 0] n) 2)
  rw [← digTo_zero a p n] at ho0
  go_enter Tryz.func178, Tryz.ntmps178
  go_wp2
  clear hmk
  go_loopw [0, 8, 13] (fun x _ i wr => ∃ j : Nat, j ≤ n ∧ i = .int .i64 j ∧ x = .int .i64 (divN a p j) ∧ OI wr w.heap.size 2 (some ⟨w.heap.size, 0, none⟩) n n (digTo a p n j) ∧ Below w.heap.size w wr) (fun _ _ i _ => n - (intOf i).toNat)
  case atStart => exact ⟨0, Nat.zero_le _, rfl, rfl, ho0, hb0⟩
  case round =>
    clear ho0 hb0
    obtain ⟨j, hj, rfl, rfl, ho, hw⟩ := hrel
    by_cases hlt : j < n
    · obtain ⟨d0, d1⟩ := divN_bd (p := p) ha (by omega) j
      have HS := Lib.hid (digTo_step (a := a) (p := p) hlt)
      have HD := Lib.hid (show divN a p (j + 1) = divN a p j / p from rfl)
      obtain ⟨ga, hga, hc, hf, hi⟩ := ho.cell hlt
      cases hga
      have m0 := Int.emod_nonneg (divN a p j) (show p ≠ 0 by omega)
      have m1 := Int.emod_lt_of_pos (divN a p j) (show 0 < p by omega)
      have ho2 := ho.set j (u := divN a p j % p) ⟨by omega, by omega⟩
      have hw2 := hw.setCell (p := ⟨w.heap.size, j, none⟩) (Nat.le_refl _) (.int .i64 (divN a p j % p))
      rw [HS.out] at ho2
      clear ho hi m0 m1
      generalize divN a p j = x at *
      go_wp2
      go_roundw
      case rel => exact ⟨j + 1, by omega, by go_num, by rw [HD.out], ho2, hw2⟩
      case measure => simp [intOf]; omega
    · obtain rfl : j = n := by omega
      rw [digTo_all] at ho
      go_wp2
      go_ret
      exact ⟨_, _, _, rfl, ho, hw⟩
set_option maxHeartbeats 800000 in
theorem numberOf_any (A : Option Addr) (n c : Nat) (l : List Int) (p : Int) (w : World) (ha : RI w A n l) (hd : Dg p l) (hp : 2 ≤ p) (hp2 : p ≤ 1000000) (hb : p ^ l.length ≤ 1000000) (hn : n ≤ 1000) :
    Calls Tryz.prog 179 #[.slice A n c, .int .i64 p] w fun e w' => e = .returned (.int .i64 (numR l p)) ∧ w = w' := by
  have hla := Lib.hid ha.len
  go_enter Tryz.func179, Tryz.ntmps179
  go_wp2
  go_loop [5, 6] (fun x i => ∃ j : Nat, j ≤ n ∧ i = .int .i64 ((j : Int) - 1) ∧ x = .int .i64 (numR (l.drop j) p)) (fun _ i => (intOf i + 1).toNat)
  case atStart => exact ⟨n, Nat.le_refl _, by go_num, by rw [List.drop_eq_nil_of_le (by rw [hla.out]; exact Nat.le_refl _)]; rfl⟩
  case round =>
    obtain ⟨j, hj, rfl, rfl⟩ := hrel
    obtain ⟨b1, b2⟩ := num_bd (p := p) (by omega) (dg_drop hd j)
    have b3 := Int.lt_of_lt_of_le b2 (pow_mono (p := p) (by omega) (show (l.drop j).length ≤ l.length by rw [List.length_drop]; omega))
    have b4 : numR (l.drop j) p ≤ 1000000 := by omega
    clear b2 b3
    by_cases h0 : 0 < j
    · obtain ⟨i, rfl⟩ : ∃ i, j = i + 1 := ⟨j - 1, by omega⟩
      have HS := Lib.hid (num_drop (l := l) (p := p) (k := i) (by rw [hla.out]; omega))
      obtain ⟨ad, rfl, hc, -⟩ := ha.get (k := i) (by omega)
      obtain ⟨c0, c1⟩ := hd i
      have hbm := mul_bdF (a := numR (l.drop (i + 1)) p) (b := p) b1 b4 (by omega) hp2
      obtain ⟨hb1, hb2⟩ := hbm
      have e1 : ((i + 1 : Nat) : Int) - 1 = (i : Int) := by omega
      rw [e1]
      generalize nth l i = d at *
      generalize numR (l.drop (i + 1)) p = x at *
      clear e1
      go_wp2
      go_round
      case rel => exact ⟨i, by omega, by go_num, by rw [HS.out]⟩
      case measure => simp [intOf]
    · obtain rfl : j = 0 := by omega
      rw [List.drop_zero]
      go_wp2
      go_ret
      exact ⟨rfl, rfl⟩
theorem OI.shortF {w : World} {B : Nat} {e : TypeId} {A : Option Addr} {n c k : Nat} {zs : List Int} (h : OI w B e A n c zs) (hk : k ≤ n) (h0 : 0 < n) : OI w B e A k c (zs.take k) := by
  refine OI.of_os ?_ h.all
  have hl := h.len
  rcases h.os.cases with ⟨_, h1, _⟩ | ⟨g', cur, rfl, hB, hg, hnc, hc, hs, ht⟩
  · omega
  · refine ⟨by simp [ints]; omega, .inr ⟨g', c, cur, rfl, hB, hg, by omega, hc, hs, ?_⟩⟩
    rw [← ht, Nat.mul_one, Nat.mul_one, List.take_take, Nat.min_eq_left hk]
theorem rem_tmod {x c b p : Int} (hp : 2 ≤ p) (hx : 0 ≤ x) (hx2 : x < p) (hc : 0 ≤ c) (hc2 : c < p) (hb : 0 ≤ b) (hb2 : b < p) (hp2 : p ≤ 1000000) : -1000000000000 ≤ x - c * b ∧ x - c * b ≤ 1000000 ∧ -1000000 ≤ (x - c * b).tmod p ∧ (x - c * b).tmod p ≤ 1000000 ∧ 0 ≤ (x - c * b).tmod p + p ∧ (x - c * b).tmod p % p = (x + (p - c) * b) % p := by
  obtain ⟨m1, m2⟩ := mul_bdF (a := c) (b := b) (x := 1000000) (y := 1000000) hc (by omega) hb (by omega)
  have e0 := Int.tmod_add_mul_tdiv (x - c * b) p
  have h1 : -p < (x - c * b).tmod p := by
    have := Int.tmod_lt_of_pos (-(x - c * b)) (show 0 < p by omega)
    rw [Int.neg_tmod] at this
    omega
  have h2 : (x - c * b).tmod p < p := Int.tmod_lt_of_pos _ (by omega)
  refine ⟨by omega, by omega, by omega, by omega, by omega, ?_⟩
  refine Cg.iff.1 ⟨-(x - c * b).tdiv p - b, ?_⟩
  rw [Int.mul_sub, Int.mul_neg, Int.sub_mul]
  omega
set_option maxRecDepth 100000 in
set_option maxHeartbeats 800000 in
theorem remainder_any (A : Option Addr) (n c : Nat) (u : List Int) (B : Option Addr) (m d : Nat) (g : List Int) (p : Int) (w : World) (ha : RI w A n u) (hb : RI w B m g) (hu : Dg p u) (hg : Dg p g) (hp : 2 ≤ p) (hp2 : p ≤ 1000000) (hn : n ≤ 1000) (hn1 : 0 < n) (hm : m ≤ 1000) (hm1 : 1 ≤ m) :
    Calls Tryz.prog 180 #[.slice A n c, .slice B m d, .int .i64 p] w (fun e w' => ∃ A' c', e = .returned (.slice A' (min (m - 1) n) c') ∧ OI w' w.heap.size 2 A' (min (m - 1) n) c' (remP p g u) ∧ Below w.heap.size w w' ∧ Dg p (remP p g u)) := by
  have hla := Lib.hid ha.len
  have hlb := Lib.hid hb.len
  go_enter Tryz.func180, Tryz.ntmps180
  go_wp2_with fail
  refine (clone_any A n c u w ha (by omega)).mono ?_
  rintro e w1 ⟨A1, n1, c1, rfl, ho1, hb1⟩
  obtain rfl : n1 = n := by rw [← ho1.len, hla.out]
  have hDg0 : Dg p (remTo p g u 0) := hu
  have ho1 : OI w1 w.heap.size 2 A1 n1 c1 (remTo p g u 0) := ho1
  obtain ⟨gA, rfl, -, -, -⟩ := ho1.cell (k := 0) (by omega)
  go_wp2
  go_loopw [9, 10, 11, 12, 13, 33] (fun i _ _ _ _ _ wr => ∃ r : Nat, r ≤ n1 - (m - 1) ∧ i = .int .i64 ((n1 : Int) - 1 - r) ∧ OI wr w.heap.size 2 (some ⟨gA, 0, none⟩) n1 c1 (remTo p g u r) ∧ Below w.heap.size w wr ∧ Dg p (remTo p g u r)) (fun i _ _ _ _ _ _ => (intOf i + 1).toNat)
  case atStart => exact ⟨0, Nat.zero_le _, by go_num, ho1, hb1, hDg0⟩
  case round =>
    clear ho1 hb1 hDg0
    obtain ⟨r, hr, rfl, ho, hw, hD⟩ := hrel
    by_cases hlt : r < n1 - (m - 1)
    · obtain ⟨ga, hga, hc, -, -⟩ := ho.cell (k := n1 - 1 - r) (by omega)
      cases hga
      obtain ⟨t, ht⟩ : ∃ t : Nat, t = n1 - 1 - r := ⟨_, rfl⟩
      have hti : (n1 : Int) - 1 - r = (t : Int) := by omega
      have htm : m - 1 ≤ t := by omega
      have htn : t < n1 := by omega
      have hS : remTo p g u (r + 1) = stepTo p g (nth (remTo p g u r) t) (t - (m - 1)) (remTo p g u r) m := by
        rw [remTo, hla.out, hlb.out, ← ht]
      have HS := Lib.hid hS
      have HL := Lib.hid (remTo_len p g u r)
      have HR := Lib.hid (show r + 1 ≤ n1 - (m - 1) ∧ (n1 : Int) - 1 - ((r + 1 : Nat) : Int) = (t : Int) - 1 from ⟨by omega, by omega⟩)
      have HDg := Lib.hid hD
      rw [← ht] at hc
      rw [hti]
      obtain ⟨f0, f1⟩ := hD t
      generalize remTo p g u r = z at *
      generalize hcc : nth z t = cc at *
      have ho : OI wr w.heap.size 2 (some ⟨gA, 0, none⟩) n1 c1 (stepTo p g cc (t - (m - 1)) z 0) := ho
      clear hcc hS ht hti hlt hr hD
      go_wp2
      obtain ⟨wo, rfl⟩ : ∃ wo : World, wo = wr := ⟨_, rfl⟩
      go_loopw [11, 12, 13, 33] (fun _ _ _ i wi => ∃ j : Nat, j ≤ m ∧ i = .int .i64 j ∧ OI wi w.heap.size 2 (some ⟨gA, 0, none⟩) n1 c1 (stepTo p g cc (t - (m - 1)) z j) ∧ Below w.heap.size w wi) (fun _ _ _ i _ => m - (intOf i).toNat)
      case atStart => exact ⟨0, Nat.zero_le _, rfl, ho, hw⟩
      case round =>
        clear ho hw
        obtain ⟨j, hj, rfl, ho, hw⟩ := hrel
        by_cases hjl : j < m
        · obtain ⟨ad, rfl, hcg, -⟩ := (hb.keep hw).get hjl
          have hzl : (stepTo p g cc (t - (m - 1)) z j).length = n1 := by rw [stepTo_len, HL.out, hla.out]
          have hDj := stepTo_dg (p := p) (by omega) (by_ := g) (c := cc) (o := t - (m - 1)) (j := j) HDg.out (by have := HL.out; have := hla.out; omega)
          obtain ⟨g0, g1⟩ := hg j
          obtain ⟨z0, z1⟩ := hDj (t - (m - 1) + j)
          have hai : t - (m - 1) + j < n1 := by omega
          have ei : (t : Int) - ((m : Int) - 1) + (j : Int) = ((t - (m - 1) + j : Nat) : Int) := by omega
          obtain ⟨ga, hga, hcz, hfz, hiz⟩ := ho.cell hai
          cases hga
          obtain ⟨q1, q2, q3, q4, q5, q6⟩ := rem_tmod (x := nth (stepTo p g cc (t - (m - 1)) z j) (t - (m - 1) + j)) (c := cc) (b := nth g j) hp z0 z1 f0 f1 g0 g1 hp2
          have HN := Lib.hid (show stepTo p g cc (t - (m - 1)) z (j + 1) = (stepTo p g cc (t - (m - 1)) z j).set (t - (m - 1) + j) ((nth (stepTo p g cc (t - (m - 1)) z j) (t - (m - 1) + j) + (p - cc) * nth g j) % p) from rfl)
          rw [← q6] at HN
          have r0 := Int.emod_nonneg ((nth (stepTo p g cc (t - (m - 1)) z j) (t - (m - 1) + j) - cc * nth g j).tmod p) (show p ≠ 0 by omega)
          have r1 := Int.emod_lt_of_pos ((nth (stepTo p g cc (t - (m - 1)) z j) (t - (m - 1) + j) - cc * nth g j).tmod p) (show 0 < p by omega)
          obtain ⟨mm1, mm2⟩ := mul_bdF (a := cc) (b := nth g j) (x := 1000000) (y := 1000000) f0 (by omega) g0 (by omega)
          have ho2 := ho.set (t - (m - 1) + j) (u := ((nth (stepTo p g cc (t - (m - 1)) z j) (t - (m - 1) + j) - cc * nth g j).tmod p) % p) ⟨by omega, by omega⟩
          have hlo := (ho.os.lt (k := gA) rfl).1
          have hw2 := hw.setCell (p := ⟨gA, t - (m - 1) + j, none⟩) hlo (.int .i64 (((nth (stepTo p g cc (t - (m - 1)) z j) (t - (m - 1) + j) - cc * nth g j).tmod p) % p))
          rw [← HN.out] at ho2
          have EI := Lib.hid ei
          clear HN q6 r0 r1 hzl hDj ho hw ei
          generalize nth (stepTo p g cc (t - (m - 1)) z j) (t - (m - 1) + j) = x at *
          generalize nth g j = b at *
          generalize hat : t - (m - 1) + j = at_ at *
          have ei : (t : Int) - ((m : Int) - 1) + (j : Int) = (at_ : Int) := EI.out
          clear hat EI
          go_wp2
          go_roundw
          case rel => exact ⟨j + 1, by omega, by go_num, ho2, hw2⟩
          case measure => simp [intOf]; omega
        · obtain rfl : j = m := by omega
          have hD2 := stepTo_dg (p := p) (by omega) (by_ := g) (c := cc) (o := t - (j - 1)) (j := j) HDg.out (by have := HL.out; have := hla.out; omega)
          rw [← HS.out] at ho hD2
          have HD2 := Lib.hid hD2
          clear hD2
          go_wp2
          go_roundw
          case rel => exact ⟨r + 1, HR.out.1, by rw [HR.out.2], ho, hw, HD2.out⟩
          case measure => simp [intOf] <;> omega
    · obtain rfl : r = n1 - (m - 1) := by omega
      have HRem := Lib.hid (show remP p g u = (remTo p g u (n1 - (m - 1))).take (m - 1) from by unfold remP; rw [hla.out, hlb.out])
      have HL := Lib.hid (show (remTo p g u (n1 - (m - 1))).length = n1 from by rw [remTo_len, hla.out])
      have hDR : Dg p (remP p g u) := fun t => by
        rw [HRem.out, nth_takeI]
        split
        · exact hD t
        · omega
      have HDR := Lib.hid hDR
      obtain ⟨cap1, cap2⟩ := ho.os.cap
      have hgo : (n1 : Int) - 1 - ((n1 - (m - 1) : Nat) : Int) < (m : Int) - 1 := by omega
      by_cases hmn : m - 1 ≤ n1
      · have ho2 := ho.shortF (k := m - 1) hmn (by omega)
        rw [← HRem.out] at ho2
        have e1 : min (m - 1) n1 = m - 1 := by omega
        have e2 : min ((m : Int) - 1) (n1 : Int) = ((m - 1 : Nat) : Int) := by omega
        have k1 : ((m - 1 : Nat) : Int) ≤ (c1 : Int) := by omega
        have k2 : m - 1 ≤ c1 := by omega
        have E1 := Lib.hid e1
        have hlo : -9000000 ≤ (n1 : Int) - 1 - ((n1 - (m - 1) : Nat) : Int) := by omega
        clear hDR hD ho hlt e1 hr ho1 hmn
        generalize (n1 : Int) - 1 - ((n1 - (m - 1) : Nat) : Int) = i at *
        go_wp2
        go_ret
        exact ⟨_, _, by rw [E1.out]; rfl, by rw [E1.out]; exact ho2, hw, HDR.out⟩
      · have e0 : n1 - (m - 1) = 0 := by omega
        have hT : remP p g u = remTo p g u (n1 - (m - 1)) := by rw [HRem.out]; exact List.take_of_length_le (by rw [HL.out]; omega)
        rw [← hT] at ho
        have E1 := Lib.hid (show min (m - 1) n1 = n1 by omega)
        have e2 : min ((m : Int) - 1) (n1 : Int) = (n1 : Int) := by omega
        have hlo : -9000000 ≤ (n1 : Int) - 1 - ((n1 - (m - 1) : Nat) : Int) := by omega
        clear hDR hD hlt hr ho1 hmn e0 hT
        generalize (n1 : Int) - 1 - ((n1 - (m - 1) : Nat) : Int) = i at *
        go_wp2
        go_ret
        exact ⟨_, _, by rw [E1.out]; rfl, by rw [E1.out]; exact ho, hw, HDR.out⟩
def zeroB (x : Int) : Bool := x != 0
theorem zeroB_any (cs : List Int) : (!cs.any zeroB) = tB (allZero cs) := by
  cases h : cs.any zeroB with
  | true =>
    obtain ⟨x, hx, hb⟩ := List.any_eq_true.1 h
    obtain ⟨k, hk, rfl⟩ := List.mem_iff_getElem.1 hx
    rw [tB_no (p := allZero cs) fun hh => ?_]
    · rfl
    · have := hh k hk
      rw [nth_get hk] at this
      rw [zeroB, this] at hb
      cases hb
  | false =>
    rw [tB_yes (p := allZero cs) fun i hi => ?_]
    · rfl
    · rw [List.any_eq_false] at h
      have := h cs[i] (List.getElem_mem hi)
      rw [nth_get hi]
      simpa [zeroB] using this
set_option maxHeartbeats 400000 in
theorem isZero_any (A : Option Addr) (n c : Nat) (cs : List Int) (w : World) (ha : RI w A n cs) (hn : n ≤ 9223372036854775807) :
    Calls Tryz.prog 200 #[.slice A n c] w fun e w' => e = .returned (.bool (tB (allZero cs))) ∧ w = w' := by
  have eg : ∀ (args : Array Value) (w : World), (callFunc 218 args).run Tryz.prog w = .ok (.enter 218 args) w := fun _ _ => by kernel_rfl
  have hask : AskIq 218 #[] zeroB w := fun x _ => by
    go_enter Tryz.func218, Tryz.ntmps218
    go_wp2
    go_ret
    exact ⟨rfl, rfl⟩
  have H := Lib.hid (zeroB_any cs)
  go_enter Tryz.func200, Tryz.ntmps200
  go_wp2_with (go_at_call 206; refine (containsFuncIq _ _ eg zeroB A n c cs _ ha hn hask).mono ?_; rintro e w1 ⟨rfl, rfl⟩)
  go_ret
  exact ⟨by rw [← H.out]; rfl, rfl⟩
def DivN (p : Int) (f : List Int) (d : Nat) (n : Int) : Prop := ∃ t, nth (remP p (digsP n p d ++ [1]) f) t ≠ 0
def IrrC (p : Int) (k : Nat) (f : List Int) : Prop := ∀ d : Nat, 1 ≤ d → 2 * d ≤ k → ∀ n : Int, 0 ≤ n → n < p ^ d → DivN p f d n
def IrrTo (p : Int) (k : Nat) (f : List Int) (d : Nat) : Prop := ∀ e : Nat, 1 ≤ e → e < d → 2 * e ≤ k → ∀ n : Int, 0 ≤ n → n < p ^ e → DivN p f e n
theorem dg_snoc {p : Int} (hp : 2 ≤ p) {l : List Int} (h : Dg p l) : Dg p (l ++ [1]) := Dg.of (by omega) fun t ht => by
  rw [List.length_append, List.length_singleton] at ht
  by_cases e : t < l.length
  · have : nth (l ++ [1]) t = nth l t := by simp [nth, List.getD, List.getElem?_append, e]
    rw [this]; exact h t
  · obtain rfl : t = l.length := by omega
    rw [nth_snoc]; omega
set_option maxRecDepth 100000 in
set_option maxHeartbeats 800000 in
theorem irreducible_any (A : Option Addr) (n c : Nat) (f : List Int) (p : Int) (k : Nat) (w : World) (ha : RI w A n f) (hnk : n = k + 1) (hf : Dg p f) (hp : 2 ≤ p) (hp2 : p ≤ 64) (hq : p ^ k ≤ 64) (hk : k ≤ 6) :
    Calls Tryz.prog 177 #[.slice A n c, .int .i64 p] w (RetB w (tB (IrrC p k f))) := by
  have hla := Lib.hid ha.len
  have HNK := Lib.hid hnk
  have hnk1 : (n : Int) - 1 = (k : Int) := by omega
  have hn7 : n ≤ 7 := by omega
  have hn1 : 0 < n := by omega
  clear hnk
  go_enter Tryz.func177, Tryz.ntmps177
  go_wp2_with fail
  refine (sizeI_any A n c _ (by omega)).mono ?_
  rintro e w' ⟨rfl, rfl⟩
  go_wp2
  go_loopw [6, 7] (fun i _ wr => ∃ d : Nat, 1 ≤ d ∧ d ≤ 7 ∧ i = .int .i64 d ∧ Below w.heap.size w wr ∧ IrrTo p k f d) (fun i _ _ => 8 - (intOf i).toNat)
  case atStart => exact ⟨1, by omega, by omega, rfl, Below.refl _ _, fun e h1 h2 => by omega⟩
  case round =>
    obtain ⟨d, hd1, hd7, rfl, hw, hI⟩ := hrel
    have HI := Lib.hid hI
    clear hI
    by_cases hlt : 2 * d ≤ k
    · have hlt' : 2 * (d : Int) ≤ (k : Int) := by omega
      have hpd : p ^ d ≤ 64 := Int.le_trans (pow_mono (by omega) (show d ≤ k by omega)) hq
      have hpd0 : 0 < p ^ d := Int.pow_pos (by omega)
      have hpw := fun (W : World) => powerUpTo_any p d 64 W hp (by omega) (by omega) (by omega) (by omega) (by omega)
      have HQ := Lib.hid (fun (r : Int) (h : CapP p ((d : Int)).toNat 64 r) => show r = p ^ d from by
        rw [Int.toNat_natCast] at h
        exact h.eq hpd)
      have HK := Lib.hid (show 1 ≤ d + 1 ∧ d + 1 ≤ 7 from ⟨by omega, by omega⟩)
      have HLT := Lib.hid hlt
      generalize hq' : p ^ d = q at *
      have HQE := Lib.hid hq'
      clear hq' hlt
      go_wp2
      obtain ⟨wo, rfl⟩ : ∃ wo : World, wo = wr := ⟨_, rfl⟩
      go_loopw [7] (fun i wi => ∃ x : Int, 0 ≤ x ∧ x ≤ q ∧ i = .int .i64 x ∧ Below w.heap.size w wi ∧ ∀ y : Int, 0 ≤ y → y < x → DivN p f d y) (fun i _ => (q - intOf i).toNat)
      case atStart => exact ⟨0, by omega, by omega, rfl, hw, fun y h1 h2 => by omega⟩
      case round =>
        clear hw
        obtain ⟨x, hx0, hxq, rfl, hw, hno⟩ := hrel
        have HN := Lib.hid hno
        clear hno
        by_cases hxl : x < q
        · go_wp2_with fail
          refine (hpw wr).mono ?_
          rintro e w' ⟨r, rfl, hcap, rfl⟩
          rw [HQ.out r hcap]
          clear hcap
          go_wp2_with fail
          refine (digitsOf_any x p d wr hx0 (by omega) hp (by omega) (by omega)).mono ?_
          rintro e w2 ⟨A2, n2, c2, rfl, ho2, hb2⟩
          obtain rfl : n2 = d := by rw [← ho2.len, digs_len]
          have hw2 := hw.trans (hb2.mono hw.size)
          have ho2 := ho2.more hw.size
          clear hb2
          have hws := hw2.size
          go_wp2_with (at_builtin; refine app_int _ rfl (.tmp 28) (.tmp 29) rfl w.heap.size A2 n2 c2 _ rfl ho2 1 w2.heap.size rfl rfl ⟨by omega, by omega⟩ (by omega) hws ?_; intro A4 c4 w4 ho4 hg4 hf4; have hb4 := below_own hw2 hg4 hws (fun q hq => (ho2.os.lt hq).1))
          have hri := ho4.reads
          have hDg4 := dg_snoc hp (digs_dg (p := p) (by omega) x n2)
          have hrm := remainder_any A n c f A4 (n2 + 1) c4 (digsP x p n2 ++ [1]) p w4 (ha.keep hb4) hri hf hDg4 hp (by omega) (by omega) hn1 (by omega) (by omega)
          have HL4 := Lib.hid (show min (n2 + 1 - 1) n ≤ 7 by omega)
          clear ho2 hg4 hf4 ho4 hri hDg4 hw2 hws
          go_wp2_with fail
          refine hrm.mono ?_
          rintro e w5 ⟨A5, c5, rfl, ho5, hb5, hD5⟩
          have hw5 := hb4.trans (hb5.mono hb4.size)
          have hiz := isZero_any A5 (min (n2 + 1 - 1) n) c5 _ w5 ho5.reads (by have := HL4.out; omega)
          have hll := ho5.len
          clear hrm hb5 hb4 ho5
          by_cases hz : allZero (remP p (digsP x p n2 ++ [1]) f)
          · rw [show tB (allZero (remP p (digsP x p n2 ++ [1]) f)) = true from tB_true.2 hz] at hiz
            have HF := Lib.hid (show tB (IrrC p k f) = false from tB_no fun hall => by
              obtain ⟨t, ht⟩ := hall n2 hd1 HLT.out x hx0 (by rw [HQE.out]; exact hxl)
              by_cases hl : t < (remP p (digsP x p n2 ++ [1]) f).length
              · exact ht (hz t hl)
              · exact ht (nth_beyond (by omega)))
            clear hz hll hD5
            go_wp2_with fail
            refine hiz.mono ?_
            rintro e w' ⟨rfl, rfl⟩
            go_wp2
            go_ret
            exact ⟨by rw [HF.out]; rfl, hw5⟩
          · rw [show tB (allZero (remP p (digsP x p n2 ++ [1]) f)) = false from tB_no hz] at hiz
            have HNX := Lib.hid (show ∀ y : Int, 0 ≤ y → y < x + 1 → DivN p f n2 y from fun y h1 h2 => by
              by_cases e : y = x
              · subst e
                refine Classical.byContradiction fun hno => hz fun t _ => Classical.byContradiction fun hne => hno ⟨t, hne⟩
              · exact HN.out y h1 (by omega))
            clear hz hll hD5
            go_wp2_with fail
            refine hiz.mono ?_
            rintro e w' ⟨rfl, rfl⟩
            go_wp2
            go_roundw
            case rel => exact ⟨x + 1, by omega, by omega, by go_num, hw5, HNX.out⟩
            case measure => simp [intOf]; omega
        · have HI2 := Lib.hid (show IrrTo p k f (d + 1) from fun e h1 h2 h3 => by
            by_cases ed : e = d
            · subst ed
              intro y hy0 hy1
              rw [HQE.out] at hy1
              exact HN.out y hy0 (by omega)
            · exact HI.out e h1 (by omega) h3)
          have hxl' : q ≤ x := by omega
          go_wp2_with fail
          refine (hpw wr).mono ?_
          rintro e w' ⟨r, rfl, hcap, rfl⟩
          rw [HQ.out r hcap]
          clear hcap
          go_wp2
          go_roundw
          case rel => exact ⟨d + 1, HK.out.1, HK.out.2, by go_num, hw, HI2.out⟩
          case measure => simp [intOf]; omega
    · have hlt' : ¬ 2 * (d : Int) ≤ (k : Int) := by omega
      have HT := Lib.hid (show tB (IrrC p k f) = true from tB_true.2 fun e h1 h2 => HI.out e h1 (by omega) h2)
      clear hnk1
      go_wp2
      go_ret
      exact ⟨by rw [HT.out]; rfl, hw⟩
end Go.Proofs.YtnmcmologlgccaaGreat
