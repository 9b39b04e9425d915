/- The order of a projective plane: the reference's side. No condition beyond those stated. -/
import Derived.Test.YtnfddnideaakgaaZAK
import Derived.Test.YtnfddnideaakgaaZAG
import Derived.Test.YtnfddnideaakgaaZAH
import Derived.Test.YtnfddnideaakgaaZAD
import Derived.Lib.Hide
set_option linter.unusedVariables false
set_option linter.unusedSimpArgs false
namespace Go.Proofs.Ytnfddnideaakgaa
open Go.RowKit

theorem Bal.same {v k k' : Nat} {bs : List (List Int)} {lam lam' : Int} (h : Bal v bs k lam) (h' : Bal v bs k' lam') : k' = k ∧ lam' = lam := by
  refine ⟨by rw [← h.len 0 h.b1, h'.len 0 h.b1], ?_⟩
  have hp := prP_pos (bs := bs) h.v2
  rw [← h.lam 0 hp, h'.lam 0 hp]
set_option maxRecDepth 100000 in
set_option maxHeartbeats 4000000 in
theorem l12Projective_ok (q v k : Nat) (g : Nat) (A : Option Addr) (n c : Nat) (bs : List (List Int)) (w : World) (hB : Blk w g 32 #[.int .i64 (v : Int), .slice A n c]) (ha : RR w A n bs) (hBal : Bal v bs k 1) (h : (q = 2 ∧ v = 7 ∧ k = 3) ∨ (q = 3 ∧ v = 13 ∧ k = 4) ∨ (q = 4 ∧ v = 21 ∧ k = 5)) :
    Calls Try.prog 24 #[.pointer (some ⟨g, 0, none⟩)] w (fun e w' => e = .returned (.int .i64 (q : Int)) ∧ Below w.heap.size w w') := by
  have hla := ha.len
  have hn := hBal.d.len
  have hok := l10Ok_any g (v : Int) A n c bs w hB ha (by omega)
  rw [tB_yes hBal.d] at hok
  have hkq : (k : Int) - 1 = q := by omega
  have hqq : (q : Int) * q = (v : Int) - q - 1 := by rcases h with ⟨rfl, rfl, rfl⟩ | ⟨rfl, rfl, rfl⟩ | ⟨rfl, rfl, rfl⟩ <;> decide
  have hq0 : 0 ≤ (q : Int) * q := by omega
  have hq1 : (q : Int) * q ≤ 100 := by omega
  have ev : ((v : Int) != (q : Int) * q + q + 1) = false := by simp; omega
  have eq2 : ¬ (q : Int) < 2 := by omega
  have hk5 : k ≤ 5 := by omega
  have hq4 : q ≤ 4 := by omega
  have hv21 : v ≤ 21 := by omega
  have HBal := Lib.hid hBal
  clear hBal h
  go_enter Try.func24, Try.ntmps24
  go_wp2_with fail
  refine hok.mono ?_
  rintro e w1 ⟨rfl, hd1⟩
  have hb1 := hd1.below
  go_wp2_with fail
  refine (l10Parameters_bal k 1 g v A n c bs w1 (hB.after hb1) (ha.keep hb1) HBal.out.d HBal.out).mono ?_
  rintro e w2 ⟨k', lam', hBal', rfl, hb2⟩
  obtain ⟨rfl, rfl⟩ := HBal.out.same hBal'
  have hw2 := hb1.trans (hb2.mono hb1.size)
  have hr := Lib.hid (show parV v bs.length (bs.flatten.count 0) k' 1 = #[.int .i64 (v : Int), .int .i64 (bs.length : Int), .int .i64 (bs.flatten.count 0 : Int), .int .i64 (k' : Int), .int .i64 1] from rfl)
  rw [hr.out]
  generalize (bs.flatten.count 0 : Int) = r0
  generalize (bs.length : Int) = b0
  have P := Blk.new w2 70 #[.int .i64 (v : Int), .int .i64 b0, .int .i64 r0, .int .i64 (k' : Int), .int .i64 1]
  have hbp := below_alloc w2 (.cells #[.int .i64 (v : Int), .int .i64 b0, .int .i64 r0, .int .i64 (k' : Int), .int .i64 1] 70)
  have hw3 := hw2.trans (hbp.mono hw2.size)
  obtain ⟨p0, p1, p2, p3, p4⟩ := P.cells5
  have sk : IntKind.i64.wrap ((k' : Int) - 1) = (k' : Int) - 1 := IntWalk.i64_in _ (by omega)
  clear hok hB ha hd1 hb1 hBal' hr hqq hbp P
  go_wp2
  go_ret
  exact ⟨by first | rw [hkq] | rfl, hw3⟩
set_option maxHeartbeats 1000000 in
theorem projectiveOrder_ok (q v k : Nat) (A : Option Addr) (n c : Nat) (bs : List (List Int)) (w : World) (ha : RR w A n bs) (hBal : Bal v bs k 1) (h : (q = 2 ∧ v = 7 ∧ k = 3) ∨ (q = 3 ∧ v = 13 ∧ k = 4) ∨ (q = 4 ∧ v = 21 ∧ k = 5)) :
    Calls Try.prog 10 #[.agg #[.int .i64 (v : Int), .slice A n c]] w (fun e w' => e = .returned (.int .i64 (q : Int)) ∧ Below w.heap.size w w') := by
  have hb := below_alloc w (.cells #[.int .i64 (v : Int), .slice A n c] 32)
  have X := Blk.new w 32 #[.int .i64 (v : Int), .slice A n c]
  have hp := l12Projective_ok q v k w.heap.size A n c bs _ X (ha.keep hb) hBal h
  go_enter Try.func10, Try.ntmps10
  go_wp2_with fail
  refine hp.mono ?_
  rintro e w2 ⟨rfl, hb2⟩
  go_wp2
  go_ret
  exact ⟨rfl, below_then hb hb2⟩
end Go.Proofs.Ytnfddnideaakgaa
/- Difference sets, plain: squares modulo m, differences of a set, translates. No program in sight. -/
namespace Go.Proofs.Ytnfddnideaakgaa
open Go.RowKit

/-- a is a square modulo m -/
def isSqK (m a : Nat) : Bool := (List.range m).any fun x => x * x % m == a
/-- the squares below k -/
def sqK (m k : Nat) : List Int := ((List.range k).filter fun a => decide (0 < a) && isSqK m a).map fun (a : Nat) => (a : Int)
theorem sqK_one (m : Nat) : sqK m 1 = [] := by simp [sqK, List.range_succ]
theorem sqK_yes {m k : Nat} (h0 : 0 < k) (h : isSqK m k = true) : sqK m (k + 1) = sqK m k ++ [(k : Int)] := by
  unfold sqK
  rw [List.range_succ, List.filter_append, List.map_append, List.filter_cons_of_pos (by simp [h0, h])]
  simp
theorem sqK_no {m k : Nat} (h : isSqK m k = false) : sqK m (k + 1) = sqK m k := by
  unfold sqK
  rw [List.range_succ, List.filter_append, List.map_append, List.filter_cons_of_neg (by simp [h])]
  simp
theorem isSqK_yes {m a x : Nat} (h : x < m) (e : x * x % m = a) : isSqK m a = true := List.any_eq_true.2 ⟨x, List.mem_range.2 h, by simp [e]⟩
theorem isSqK_no {m a : Nat} (h : ∀ x, x < m → x * x % m ≠ a) : isSqK m a = false := by
  unfold isSqK
  rw [List.any_eq_false]
  intro x hx
  simpa using h x (List.mem_range.1 hx)
theorem sqK_len (m k : Nat) : (sqK m k).length ≤ k := by
  unfold sqK
  rw [List.length_map]
  exact Nat.le_trans (List.length_filter_le _ _) (by simp)
/-- the differences from a to the elements of a list -/
def difA (n : Nat) (a : Int) (s : List Int) : List Int := (s.filter fun b => a != b).map fun b => (a - b + n) % n
/-- the differences from the first i elements -/
def difS (n : Nat) (s : List Int) (i : Nat) : List Int := (s.take i).flatMap fun a => difA n a s
/-- the differences of the first q sets -/
def difF (n : Nat) (sets : List (List Int)) (q : Nat) : List Int := (sets.take q).flatMap fun s => difS n s s.length
/-- how often each residue is in a list -/
def cntT (n : Nat) (L : List Int) : List Int := (List.range n).map fun (i : Nat) => ((L.count (i : Int) : Nat) : Int)
theorem cntT_len (n : Nat) (L : List Int) : (cntT n L).length = n := by simp [cntT]
theorem cntT_nth {n i : Nat} {L : List Int} (h : i < n) : nth (cntT n L) i = (L.count (i : Int) : Nat) := by
  rw [nth_get (by rw [cntT_len]; exact h)]; simp [cntT]
theorem cntT_put {n d : Nat} {L : List Int} (h : d < n) : (cntT n L).set d (nth (cntT n L) d + 1) = cntT n (L ++ [(d : Int)]) := by
  refine List.ext_getElem (by simp [cntT]) fun i h1 h2 => ?_
  have hi : i < n := by simpa [cntT] using h1
  rw [← nth_get h1, ← nth_get h2, cntT_nth hi]
  by_cases e : d = i
  · subst e
    rw [nth_get h1]
    simp only [List.getElem_set_self]
    rw [cntT_nth h, List.count_append]
    simp
  · rw [nth_get h1, List.getElem_set_ne e, ← nth_get (by rw [cntT_len]; exact hi), cntT_nth hi, List.count_append]
    have : ((d : Int) == (i : Int)) = false := by simp; omega
    simp [List.count_cons, this]
theorem cntT_bd {n i : Nat} {L : List Int} (h : i < n) : 0 ≤ nth (cntT n L) i ∧ nth (cntT n L) i ≤ L.length := by
  rw [cntT_nth h]
  have := List.count_le_length (a := (i : Int)) (l := L)
  omega
theorem difA_step {n : Nat} {a : Int} {s : List Int} {j : Nat} (h : j < s.length) : difA n a (s.take (j + 1)) = difA n a (s.take j) ++ (if a != nth s j then [(a - nth s j + n) % n] else []) := by
  rw [List.take_succ_eq_append_getElem h, nth_get h]
  unfold difA
  rw [List.filter_append, List.map_append]
  by_cases e : a = s[j] <;> simp [e]
theorem difA_len (n : Nat) (a : Int) (s : List Int) : (difA n a s).length ≤ s.length := by
  unfold difA; rw [List.length_map]; exact List.length_filter_le _ _
theorem difS_step {n : Nat} {s : List Int} {i : Nat} (h : i < s.length) : difS n s (i + 1) = difS n s i ++ difA n (nth s i) s := by
  unfold difS
  rw [List.take_succ_eq_append_getElem h, List.flatMap_append, nth_get h]
  simp
theorem difS_len {n : Nat} {s : List Int} (hs : s.length ≤ 32) : ∀ i, i ≤ s.length → (difS n s i).length ≤ i * 32 := by
  intro i
  induction i with
  | zero => intro _; simp [difS]
  | succ i ih =>
    intro h
    rw [difS_step (by omega), List.length_append]
    have := ih (by omega)
    have := difA_len n (nth s i) s
    omega
theorem difF_step {n : Nat} {sets : List (List Int)} {q : Nat} (h : q < sets.length) : difF n sets (q + 1) = difF n sets q ++ difS n (row sets q) (row sets q).length := by
  unfold difF
  rw [List.take_succ_eq_append_getElem h, List.flatMap_append, row_get h]
  simp
theorem difF_len {n : Nat} {sets : List (List Int)} (hs : ∀ q, q < sets.length → (row sets q).length ≤ 32) : ∀ q, q ≤ sets.length → (difF n sets q).length ≤ q * 1024 := by
  intro q
  induction q with
  | zero => intro _; simp [difF]
  | succ q ih =>
    intro h
    rw [difF_step (by omega), List.length_append]
    have h1 := ih (by omega)
    have h2 := hs q (by omega)
    have h3 := difS_len (n := n) h2 (row sets q).length (Nat.le_refl _)
    omega
/-- the image of a set, in order -/
def mapK (n : Nat) (f : Int → Int) (s : List Int) : List Int := srt (s.map fun x => f x % n)
def transK (n : Nat) (s : List Int) (by_ : Int) : List Int := mapK n (fun x => x + by_) s
def mulK (n : Nat) (s : List Int) (by_ : Int) : List Int := mapK n (fun x => x * by_) s
/-- the least translate, among the first k and the set -/
def normK (n : Nat) (s : List Int) : Nat → List Int
  | 0 => s
  | k + 1 => if cmpL (transK n s k) (normK n s k) < 0 then transK n s k else normK n s k
end Go.Proofs.Ytnfddnideaakgaa
/- Plain arithmetic: how often a number divides another one, the factors of a number, powers, Hilbert symbols: the functions that both sides compute. No Go in sight. -/
namespace Go.Proofs.Ytnfddnideaakgaa

/-- how often p divides a, and what is left -/
def expoF : Nat → Int → Int → Nat
  | 0, _, _ => 0
  | f + 1, a, p => if a.tmod p = 0 then expoF f (a.tdiv p) p + 1 else 0
def cofF : Nat → Int → Int → Int
  | 0, a, _ => a
  | f + 1, a, p => if a.tmod p = 0 then cofF f (a.tdiv p) p else a
def expo (a p : Int) : Nat := expoF a.natAbs a p
def cof (a p : Int) : Int := cofF a.natAbs a p

theorem tdiv_lt {a p : Int} (ha : a ≠ 0) (hp : 2 ≤ p) (h : a.tmod p = 0) : (a.tdiv p).natAbs < a.natAbs ∧ a.tdiv p ≠ 0 ∧ a = p * a.tdiv p := by
  have h1 : p * a.tdiv p = a := by have := Int.mul_tdiv_add_tmod a p; omega
  have h0 : a.tdiv p ≠ 0 := fun e => by rw [e] at h1; simp at h1; exact ha h1.symm
  refine ⟨?_, h0, h1.symm⟩
  have h2 : a.natAbs = p.natAbs * (a.tdiv p).natAbs := by rw [← Int.natAbs_mul, h1]
  have h3 : 0 < (a.tdiv p).natAbs := by omega
  have h4 : 2 ≤ p.natAbs := by omega
  rw [h2]
  calc (a.tdiv p).natAbs < 2 * (a.tdiv p).natAbs := by omega
    _ ≤ p.natAbs * (a.tdiv p).natAbs := Nat.mul_le_mul_right _ h4
theorem expoF_more {p : Int} (hp : 2 ≤ p) : ∀ (f g : Nat) (a : Int), a ≠ 0 → a.natAbs ≤ f → a.natAbs ≤ g → expoF f a p = expoF g a p ∧ cofF f a p = cofF g a p := by
  intro f
  induction f with
  | zero => intro g a ha h1 _; omega
  | succ f ih =>
    intro g a ha h1 h2
    cases g with
    | zero => omega
    | succ g =>
      unfold expoF cofF
      by_cases h : a.tmod p = 0
      · obtain ⟨h3, h4, _⟩ := tdiv_lt ha hp h
        have := ih g _ h4 (by omega) (by omega)
        rw [if_pos h, if_pos h, if_pos h, if_pos h, this.1, this.2]
        exact ⟨rfl, rfl⟩
      · rw [if_neg h, if_neg h, if_neg h, if_neg h]
        exact ⟨rfl, rfl⟩
theorem expo_yes {a p : Int} (ha : a ≠ 0) (hp : 2 ≤ p) (h : a.tmod p = 0) : expo a p = expo (a.tdiv p) p + 1 ∧ cof a p = cof (a.tdiv p) p := by
  obtain ⟨h3, h4, _⟩ := tdiv_lt ha hp h
  obtain ⟨f, hf⟩ : ∃ f, a.natAbs = f + 1 := ⟨a.natAbs - 1, by omega⟩
  have := expoF_more hp f (a.tdiv p).natAbs (a.tdiv p) h4 (by omega) (Nat.le_refl _)
  unfold expo cof
  rw [hf, show expoF (f + 1) a p = if a.tmod p = 0 then expoF f (a.tdiv p) p + 1 else 0 from rfl, show cofF (f + 1) a p = if a.tmod p = 0 then cofF f (a.tdiv p) p else a from rfl,
    if_pos h, if_pos h, this.1, this.2]
  exact ⟨rfl, rfl⟩
theorem expo_no {a p : Int} (h : a.tmod p ≠ 0) : expo a p = 0 ∧ cof a p = a := by
  unfold expo cof
  cases a.natAbs with
  | zero => exact ⟨rfl, rfl⟩
  | succ f => unfold expoF cofF; rw [if_neg h, if_neg h]; exact ⟨rfl, rfl⟩
/-- an induction along the divisions -/
theorem expo_ind {p : Int} (hp : 2 ≤ p) (Q : Int → Prop) (no : ∀ a, a ≠ 0 → a.tmod p ≠ 0 → Q a) (yes : ∀ a, a ≠ 0 → a.tmod p = 0 → Q (a.tdiv p) → Q a) : ∀ a, a ≠ 0 → Q a := by
  intro a
  generalize hn : a.natAbs = n
  induction n using Nat.strongRecOn generalizing a with
  | _ n ih =>
    intro ha
    by_cases h : a.tmod p = 0
    · obtain ⟨h3, h4, _⟩ := tdiv_lt ha hp h
      exact yes a ha h (ih _ (by omega) _ rfl h4)
    · exact no a ha h
theorem expo_spec {a p : Int} (ha : a ≠ 0) (hp : 2 ≤ p) : a = cof a p * p ^ expo a p ∧ (cof a p).tmod p ≠ 0 ∧ cof a p ≠ 0 := by
  refine expo_ind hp (fun a => a = cof a p * p ^ expo a p ∧ (cof a p).tmod p ≠ 0 ∧ cof a p ≠ 0) ?_ ?_ a ha
  · intro a h0 h
    rw [(expo_no h).1, (expo_no h).2]
    exact ⟨by simp, h, h0⟩
  · intro a h0 h ih
    obtain ⟨_, _, h5⟩ := tdiv_lt h0 hp h
    rw [(expo_yes h0 hp h).1, (expo_yes h0 hp h).2]
    refine ⟨?_, ih.2⟩
    rw [Int.pow_succ, ← Int.mul_assoc, ← ih.1, Int.mul_comm]
    exact h5
theorem expo_le {a p : Int} (ha : a ≠ 0) (hp : 2 ≤ p) : (2 : Nat) ^ expo a p ≤ a.natAbs ∧ (cof a p).natAbs ≤ a.natAbs := by
  refine expo_ind hp (fun a => (2 : Nat) ^ expo a p ≤ a.natAbs ∧ (cof a p).natAbs ≤ a.natAbs) ?_ ?_ a ha
  · intro a h0 h
    rw [(expo_no h).1, (expo_no h).2]
    exact ⟨by simp; omega, Nat.le_refl _⟩
  · intro a h0 h ih
    obtain ⟨h3, h4, h5⟩ := tdiv_lt h0 hp h
    rw [(expo_yes h0 hp h).1, (expo_yes h0 hp h).2]
    have h6 : a.natAbs = p.natAbs * (a.tdiv p).natAbs := by rw [← Int.natAbs_mul, ← h5]
    refine ⟨?_, by omega⟩
    rw [Nat.pow_succ, h6, Nat.mul_comm]
    exact Nat.mul_le_mul (by omega) ih.1
theorem expo_20 {a p : Int} (ha : a ≠ 0) (hp : 2 ≤ p) (h : a.natAbs ≤ 1000000) : expo a p ≤ 19 := by
  have := (expo_le ha hp).1
  rcases Nat.lt_or_ge (expo a p) 20 with h1 | h1
  · omega
  · have h2 := Nat.pow_le_pow_right (n := 2) (by omega) h1
    omega

/-- the factors of n from p on -/
def facF : Nat → Int → Int → List Int
  | 0, _, _ => []
  | f + 1, p, n => if p * p ≤ n then List.replicate (expo n p) p ++ facF f (p + 1) (cof n p) else if 1 < n then [n] else []
/-- enough fuel: one round more than there are numbers from p to n -/
def facs (p n : Int) : List Int := facF (n.toNat + 1) p n
theorem cof_pos {n p : Int} (hn : 0 < n) (hp : 2 ≤ p) : 0 < cof n p := by
  refine (expo_ind hp (fun a => 0 < a → 0 < cof a p) ?_ ?_ n (by omega)) hn
  · intro a h0 h ha; rw [(expo_no h).2]; exact ha
  · intro a h0 h ih ha
    rw [(expo_yes h0 hp h).2]
    refine ih ?_
    obtain ⟨_, h4, h5⟩ := tdiv_lt h0 hp h
    have : 0 ≤ a.tdiv p := Int.tdiv_nonneg (by omega) (by omega)
    omega
theorem cof_le {n p : Int} (hn : 0 < n) (hp : 2 ≤ p) : cof n p ≤ n := by
  have h1 := (expo_le (a := n) (p := p) (by omega) hp).2
  have h2 := cof_pos hn hp
  omega
theorem facF_more : ∀ (f g : Nat) (p n : Int), 2 ≤ p → 0 < n → (n + 1 - p).toNat < f → (n + 1 - p).toNat < g → facF f p n = facF g p n := by
  intro f
  induction f with
  | zero => intro g p n _ _ h _; omega
  | succ f ih =>
    intro g p n hp hn h1 h2
    cases g with
    | zero => omega
    | succ g =>
      unfold facF
      by_cases h : p * p ≤ n
      · have hpn : p ≤ n := by
          have : p * 1 ≤ p * p := Int.mul_le_mul_of_nonneg_left (by omega) (by omega)
          omega
        have h3 := cof_pos hn hp
        have h4 := cof_le hn hp
        rw [if_pos h, if_pos h, ih g (p + 1) (cof n p) (by omega) h3 (by omega) (by omega)]
      · rw [if_neg h, if_neg h]
theorem facs_eq {p n : Int} (hp : 2 ≤ p) (hn : 0 < n) : facs p n = if p * p ≤ n then List.replicate (expo n p) p ++ facs (p + 1) (cof n p) else if 1 < n then [n] else [] := by
  have h3 := cof_pos hn hp
  have h4 := cof_le hn hp
  unfold facs
  rw [show n.toNat + 1 = n.toNat.succ from rfl]
  conv => lhs; unfold facF
  by_cases h : p * p ≤ n
  · have hpn : p ≤ n := by
      have : p * 1 ≤ p * p := Int.mul_le_mul_of_nonneg_left (by omega) (by omega)
      omega
    rw [if_pos h, if_pos h, facF_more _ ((cof n p).toNat + 1) (p + 1) (cof n p) (by omega) h3 (by omega) (by omega)]
  · rw [if_neg h, if_neg h]
/-- every factor is at least p, at most n -/
theorem facs_mem : ∀ (f : Nat) (p n : Int), 2 ≤ p → 0 < n → (n + 1 - p).toNat < f → (∀ d, 2 ≤ d → d < p → n.tmod d ≠ 0) → ∀ q ∈ facF f p n, 2 ≤ q ∧ q ≤ n := by
  intro f
  induction f with
  | zero => intro p n _ _ _ _ q hq; simp [facF] at hq
  | succ f ih =>
    intro p n hp hn h1 h2 q hq
    unfold facF at hq
    by_cases h : p * p ≤ n
    · have hpn : p ≤ n := by
        have : p * 1 ≤ p * p := Int.mul_le_mul_of_nonneg_left (by omega) (by omega)
        omega
      have h3 := cof_pos hn hp
      have h4 := cof_le hn hp
      rw [if_pos h] at hq
      rcases List.mem_append.1 hq with hq | hq
      · have := List.eq_of_mem_replicate hq
        omega
      · have hs := expo_spec (a := n) (p := p) (by omega) hp
        have := ih (p + 1) (cof n p) (by omega) h3 (by omega) (fun d hd1 hd2 => ?_) q hq
        · omega
        · by_cases e : d = p
          · subst e; exact hs.2.1
          · intro hd
            refine h2 d hd1 (by omega) ?_
            have hdv : d ∣ cof n p := Int.dvd_of_tmod_eq_zero hd
            rw [hs.1]
            exact Int.tmod_eq_zero_of_dvd (Int.dvd_trans hdv (Int.dvd_mul_right _ _))
    · rw [if_neg h] at hq
      by_cases h' : 1 < n
      · rw [if_pos h'] at hq
        simp at hq
        omega
      · rw [if_neg h'] at hq
        simp at hq
theorem facs_ge {n q : Int} (hn : 0 < n) (hq : q ∈ facs 2 n) : 2 ≤ q ∧ q ≤ n :=
  facs_mem _ 2 n (by omega) hn (by omega) (fun d h1 h2 => by omega) q hq
end Go.Proofs.Ytnfddnideaakgaa
