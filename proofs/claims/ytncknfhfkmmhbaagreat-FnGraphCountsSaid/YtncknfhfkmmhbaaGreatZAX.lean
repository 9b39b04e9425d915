/- How many graphs there are, counted by cycles: the program's side. No condition beyond those stated. -/
import Derived.Test.YtncknfhfkmmhbaaGreatZAS
import Derived.Test.YtncknfhfkmmhbaaGreatZAW
import Derived.Test.YtncknfhfkmmhbaaGreatZAJ
import Derived.Test.YtncknfhfkmmhbaaGreatZAE
set_option linter.unusedVariables false
set_option linter.unusedSimpArgs false
namespace Go.Proofs.YtncknfhfkmmhbaaGreat
open Go.RowKit Go.Maps

theorem unrP_in : ∀ (k : Nat) (L : List Int) (r : Nat), L.length = k → r < factN k → ∀ x ∈ unrP k L r, x ∈ L := by
  intro k
  induction k with
  | zero => intro L r _ _ x hx; simp [unrP] at hx
  | succ k ih =>
    intro L r hl hr x hx
    have hq : r / factN k < k + 1 := by
      rw [Nat.div_lt_iff_lt_mul (factN_pos k)]
      simpa [factN, Nat.mul_comm] using hr
    unfold unrP at hx
    rcases List.mem_cons.1 hx with rfl | hx
    · rw [nth_get (by omega)]
      exact List.getElem_mem _
    · have h := ih _ _ (by simp [List.length_take, List.length_drop]; omega) (Nat.mod_lt _ (factN_pos k)) x hx
      rcases List.mem_append.1 h with h | h
      · exact List.mem_of_mem_take h
      · exact List.mem_of_mem_drop h
theorem permK_prm {n : Nat} : ∀ p ∈ permK n (factN n), PrmN n p := fun p hp => by
  unfold permK at hp
  obtain ⟨r, hr, rfl⟩ := List.mem_map.1 hp
  refine ⟨unrP_len _ _ _, fun i hi => ?_⟩
  have hi2 : i < (unrP n (iotaP n) r).length := by rw [unrP_len]; exact hi
  have h := unrP_in n (iotaP n) r (iotaP_len n) (List.mem_range.1 hr) _ (List.getElem_mem hi2)
  rw [nth_get hi2]
  unfold iotaP at h
  obtain ⟨y, hy, e⟩ := List.mem_map.1 h
  exact ⟨y, e.symm, List.mem_range.1 hy⟩
/-- the pairs not yet seen -/
def allQ : List (Nat × Nat) := (List.range 6).flatMap fun a => (List.range 6).map fun b => (a, b)
def leftQ (L S : List (Nat × Nat)) : Nat := (L.filter fun q => decide (q ∉ S)).length
theorem leftQ_mono (L S : List (Nat × Nat)) (q : Nat × Nat) : leftQ L (q :: S) ≤ leftQ L S := by
  induction L with
  | nil => simp [leftQ]
  | cons x L ih =>
    unfold leftQ at ih ⊢
    simp only [List.filter_cons]
    by_cases h1 : x ∈ S
    · have h2 : x ∈ q :: S := List.mem_cons_of_mem _ h1
      simp only [h1, h2, not_true_eq_false, decide_false, Bool.false_eq_true, if_false]
      exact ih
    · by_cases h2 : x ∈ q :: S
      · simp only [h1, h2, not_true_eq_false, not_false_eq_true, decide_false, decide_true, Bool.false_eq_true, if_false, if_true, List.length_cons]
        omega
      · simp only [h1, h2, not_false_eq_true, decide_true, if_true, List.length_cons]
        omega
theorem leftQ_lt (L S : List (Nat × Nat)) (q : Nat × Nat) (hq : q ∈ L) (hs : q ∉ S) : leftQ L (q :: S) < leftQ L S := by
  induction L with
  | nil => cases hq
  | cons x L ih =>
    have hm := leftQ_mono L S q
    unfold leftQ at ih hm ⊢
    simp only [List.filter_cons]
    by_cases hx : x = q
    · subst hx
      simp only [hs, List.mem_cons_self, not_true_eq_false, not_false_eq_true, decide_false, decide_true, Bool.false_eq_true, if_false, if_true, List.length_cons]
      omega
    · have hq' : q ∈ L := by
        rcases List.mem_cons.1 hq with e | e
        · exact absurd e.symm hx
        · exact e
      have h := ih hq'
      by_cases h1 : x ∈ S
      · have h2 : x ∈ q :: S := List.mem_cons_of_mem _ h1
        simp only [h1, h2, not_true_eq_false, decide_false, Bool.false_eq_true, if_false]
        exact h
      · have h2 : x ∉ q :: S := fun e => by
          rcases List.mem_cons.1 e with e | e
          · exact hx e
          · exact h1 e
        simp only [h1, h2, not_false_eq_true, decide_true, if_true, List.length_cons]
        omega
theorem allQ_mem {q : Nat × Nat} (h1 : q.1 < 6) (h2 : q.2 < 6) : q ∈ allQ := by
  unfold allQ
  exact List.mem_flatMap.2 ⟨q.1, List.mem_range.2 h1, List.mem_map.2 ⟨q.2, List.mem_range.2 h2, rfl⟩⟩
theorem leftQ_le (S : List (Nat × Nat)) : leftQ allQ S ≤ 36 := by
  unfold leftQ
  exact Nat.le_trans (List.length_filter_le _ _) (by decide)
theorem walkP_some {n : Nat} {p : List Int} (hp : PrmN n p) (hn : n ≤ 6) : ∀ (f : Nat) (S : List (Nat × Nat)) (q : Nat × Nat), q.1 < n → q.2 < n → leftQ allQ S < f → ∃ S', walkP p f S q = some S' := by
  intro f
  induction f with
  | zero => intro S q _ _ h; omega
  | succ f ih =>
    intro S q h1 h2 h
    unfold walkP
    by_cases hq : q ∈ S
    · exact ⟨S, by rw [if_pos hq]⟩
    · rw [if_neg hq]
      obtain ⟨u, hu, hun⟩ := hp.2 q.1 h1
      obtain ⟨v, hv, hvn⟩ := hp.2 q.2 h2
      have hlt := leftQ_lt allQ S q (allQ_mem (by omega) (by omega)) hq
      exact ih (q :: S) (nxtC p q) (by unfold nxtC; simp only [hu, hv]; simp; omega) (by unfold nxtC; simp only [hu, hv]; simp; omega) (by omega)
theorem cycL_some {n : Nat} {p : List Int} (hp : PrmN n p) (hn : n ≤ 6) : ∀ (qs : List (Nat × Nat)) (c : Nat) (S : List (Nat × Nat)), (∀ q ∈ qs, q.1 < n ∧ q.2 < n) → ∃ C S', cycL p qs c S = some (C, S') ∧ C ≤ c + qs.length := by
  intro qs
  induction qs with
  | nil => intro c S _; exact ⟨c, S, rfl, by simp⟩
  | cons q qs ih =>
    intro c S h
    obtain ⟨h1, h2⟩ := h q List.mem_cons_self
    obtain ⟨S1, e1⟩ := walkP_some hp hn 41 S q h1 h2 (by have := leftQ_le S; omega)
    obtain ⟨C, S2, e2, hC⟩ := ih (if q ∈ S then c else c + 1) S1 (fun x hx => h x (List.mem_cons_of_mem _ hx))
    refine ⟨C, S2, ?_, ?_⟩
    · unfold cycL
      rw [e1]
      exact e2
    · simp only [List.length_cons]
      split at hC <;> omega
theorem restA_ok : ∀ n, n < 7 → (∀ q ∈ restA n 0, q.1 < n ∧ q.2 < n) ∧ (restA n 0).length ≤ 15 := by decide +kernel
/-- the cycles of a permutation on the pairs -/
def cycC (n : Nat) (p : List Int) : Nat := match cycL p (restA n 0) 0 [] with
  | some (C, _) => C
  | none => 0
theorem cycC_of {n : Nat} {p : List Int} (hp : PrmN n p) (hn : n ≤ 6) : ∃ SF, cycL p (restA n 0) 0 [] = some (cycC n p, SF) ∧ cycC n p ≤ 15 := by
  obtain ⟨h1, h2⟩ := restA_ok n (by omega)
  obtain ⟨C, S', e, hC⟩ := cycL_some hp hn (restA n 0) 0 [] h1
  have : cycC n p = C := by unfold cycC; rw [e]
  rw [this]
  exact ⟨S', e, by omega⟩
def sumC (n : Nat) : List (List Int) → Nat
  | [] => 0
  | p :: ps => 2 ^ cycC n p + sumC n ps
theorem sumC_snoc (n : Nat) (p : List Int) : ∀ ps, sumC n (ps ++ [p]) = sumC n ps + 2 ^ cycC n p := by
  intro ps
  induction ps with
  | nil => simp [sumC]
  | cons q ps ih => simp only [List.cons_append, sumC, ih]; omega
theorem sumC_le {n : Nat} : ∀ ps : List (List Int), (∀ p ∈ ps, cycC n p ≤ 15) → sumC n ps ≤ 32768 * ps.length := by
  intro ps
  induction ps with
  | nil => intro _; simp [sumC]
  | cons p ps ih =>
    intro h
    have h1 := ih (fun q hq => h q (List.mem_cons_of_mem _ hq))
    have h2 : 2 ^ cycC n p ≤ 2 ^ 15 := Nat.pow_le_pow_right (by omega) (h p List.mem_cons_self)
    simp only [sumC, List.length_cons]
    omega
theorem sumC_take (n : Nat) (ps : List (List Int)) : ∀ k, sumC n (ps.take k) ≤ sumC n ps := by
  induction ps with
  | nil => intro k; simp [sumC]
  | cons p ps ih =>
    intro k
    cases k with
    | zero => simp [sumC]
    | succ k => simp only [List.take_succ_cons, sumC]; have := ih k; omega
/-- how many graphs -/
def cntN (n : Nat) : Nat := sumC n (permK n (factN n)) / factN n
theorem pairCycles_of (n : Nat) (A : Option Addr) (c0 : Nat) (p : List Int) (w : World) (ha : RI w A n p) (hn1 : 1 ≤ n) (hn : n ≤ 6) (hp : PrmN n p) :
    Calls Tryz.prog 17 #[.slice A n c0] w (fun e w' => e = .returned (.int .i64 (cycC n p : Int)) ∧ cycC n p ≤ 15 ∧ Below w.heap.size w w') := by
  obtain ⟨SF, e, h⟩ := cycC_of hp hn
  refine (pairCycles_any n A c0 p w ha hn1 hn hp _ SF e).mono ?_
  rintro e w' ⟨h1, _, h2⟩
  exact ⟨h1, h, h2⟩
set_option maxRecDepth 100000 in
set_option maxHeartbeats 4000000 in
theorem countGraphs_any (n : Nat) (w : World) (hn1 : 1 ≤ n) (hn : n ≤ 6) :
    Calls Tryz.prog 7 #[.int .i64 n] w (fun e w' => e = .returned (.tuple #[.int .i64 (cntN n : Int), .int .i64 0]) ∧ Below w.heap.size w w') := by
  have hfl : factN n ≤ 720 := by
    have : ∀ n, n < 7 → factN n ≤ 720 := by decide +kernel
    exact this n (by omega)
  have hf0 := factN_pos n
  have HC := Lib.hid (show cntN n = sumC n (permK n (factN n)) / factN n from rfl)
  have HP := Lib.hid (permK_prm (n := n))
  have hrl := Lib.hid (permK_rows n (factN n))
  have hll := permK_len n (factN n)
  have hbig : sumC n (permK n (factN n)) ≤ 32768 * 720 := by
    have h1 := sumC_le (n := n) (permK n (factN n)) (fun p hp => (cycC_of (permK_prm p hp) hn).choose_spec.2)
    rw [permK_len] at h1
    omega
  have hap := allPermutations_any n w hn1 (by omega)
  have hfa := fun w' => factorial_any n w' (by omega)
  have hin : inB (n : Int) 1 6 = true := by simp [inB]; omega
  generalize cntN n = Z at *
  generalize hF : factN n = F at *
  clear hF
  generalize permK n F = L at *
  have HT := Lib.hid (sumC_take n L)
  have HB := Lib.hid hbig
  clear hbig
  go_enter Tryz.func7, Tryz.ntmps7
  go_wp2_with (first | (go_at_call 14; refine (within_any _ _ _ _).mono ?_; rintro e w' ⟨rfl, rfl⟩; rw [hin]) | (go_at_call 16; refine hap.mono ?_; rintro e w1 ⟨A, m, c, rfl, ho, hb⟩))
  have hm := OR.len ho
  have hRR := OR.reads ho
  clear ho
  obtain rfl : m = F := by omega
  clear hap
  go_loopw [4, 13] (fun sv kv wr => ∃ k : Nat, k ≤ m ∧ kv = .int .i64 k ∧ sv = .int .i64 (sumC n (L.take k) : Int) ∧ Below w1.heap.size w1 wr) (fun _ kv _ => m - (intOf kv).toNat)
  case atStart => exact ⟨0, Nat.zero_le _, rfl, rfl, Below.refl _ _⟩
  case round =>
    obtain ⟨k, hk, rfl, rfl, hbr⟩ := hrel
    by_cases hlt : k < m
    · have hst := HT.out (k + 1)
      rw [List.take_succ_eq_append_getElem (by omega), sumC_snoc, ← row_get (by omega)] at hst
      have HST := Lib.hid (show sumC n (L.take (k + 1)) = sumC n (L.take k) + 2 ^ cycC n (row L k) by rw [List.take_succ_eq_append_getElem (by omega), sumC_snoc, ← row_get (by omega)])
      have hbig := HB.out
      obtain ⟨ad, R, rn, rc, rfl, hcell, hrc1, hrc2, hrow⟩ := (hRR.keep hbr).get hlt
      have hrn : rn = n := by have := hrl.out k hlt; have := hrow.len; omega
      subst hrn
      have hmem : row L k ∈ L := by rw [row_get (by omega)]; exact List.getElem_mem _
      have hpc := fun w' (h : Below wr.heap.size wr w') => pairCycles_of rn R rc (row L k) w' (hrow.keep h) hn1 hn (HP.out _ hmem)
      generalize cycC rn (row L k) = y at *
      generalize sumC rn (L.take k) = z0 at *
      clear hrow hmem
      go_wp2_with (go_at_call 17; refine (hpc wr (Below.refl _ _)).mono ?_; rintro e w2 ⟨rfl, hy, hb2⟩)
      have hy2 : 2 ^ y ≤ 2 ^ 15 := Nat.pow_le_pow_right (by omega) hy
      have e2 : (2 : Int) ^ y = ((2 ^ y : Nat) : Int) := by push_cast; rfl
      rw [e2]
      have hst2 := HST.out
      clear e2 HST
      generalize 2 ^ y = q at *
      refine ⟨⟨k + 1, by omega, by go_num, ?_, hbr.trans (hb2.mono hbr.size)⟩, by simp only [intOf]; omega⟩
      rw [hst2, IntWalk.wrap64_in (q : Int) (by omega), IntWalk.wrap64_in _ (by omega)]
      push_cast
      rfl
    · obtain rfl : k = m := by omega
      have HK := Lib.hid (show sumC n (L.take k) = sumC n L by rw [List.take_of_length_le (by omega)])
      have HB2 := Lib.hid (hb.trans (hbr.mono hb.size))
      rw [HK.out] at *
      have hbig := HB.out
      generalize sumC n L = z at *
      go_wp2_with (go_at_call 18; refine (hfa _).mono ?_; rintro e w' ⟨rfl, rfl⟩)
      have e2 : wrap64 ((z : Int) / k) = (Z : Int) := by
        rw [HC.out]
        have h1 : z / k ≤ z := Nat.div_le_self _ _
        rw [show (z : Int) / k = ((z / k : Nat) : Int) by push_cast; rfl]
        generalize z / k = d at *
        exact IntWalk.wrap64_in _ (by omega)
      rw [e2]
      exact bodyPost_ret (v := .tuple #[.int .i64 Z, .int .i64 0]) (by simp [results, Tryz.results7, go_sem]) rfl ⟨rfl, HB2.out⟩
set_option maxRecDepth 100000 in
theorem countGraphs_no (n : Int) (w : World) (h : ¬ (1 ≤ n ∧ n ≤ 6)) :
    Calls Tryz.prog 7 #[.int .i64 n] w (fun e w' => e = .returned (.tuple #[.int .i64 0, .int .i64 2]) ∧ w = w') := by
  have hin : inB n 1 6 = false := by simp [inB]; omega
  go_enter Tryz.func7, Tryz.ntmps7
  go_wp2_with (go_at_call 14; refine (within_any _ _ _ _).mono ?_; rintro e w' ⟨rfl, rfl⟩; rw [hin])
  exact bodyPost_ret (v := .tuple #[.int .i64 0, .int .i64 2]) (by simp [results, Tryz.results7, go_sem]) rfl ⟨rfl, rfl⟩
end Go.Proofs.YtncknfhfkmmhbaaGreat
/- Plain words for memory: a table of truth values that a call owns, its rows in blocks of their own. No condition beyond those stated. -/
namespace Go.Proofs.YtncknfhfkmmhbaaGreat
open Go.RowKit

/-- m truth values -/
def bools (m : Nat) (f : Nat → Bool) : List Value := (List.range m).map fun (b : Nat) => .bool (f b)
theorem bools_len (m : Nat) (f : Nat → Bool) : (bools m f).length = m := by simp [bools]
theorem bools_at {m : Nat} {f : Nat → Bool} {b : Nat} (h : b < m) : (bools m f)[b]? = some (.bool (f b)) := by simp [bools, h]
theorem bools_set {m : Nat} {f : Nat → Bool} {b : Nat} {x : Bool} : (bools m f).set b (.bool x) = bools m fun c => if c = b then x else f c := by
  apply List.ext_getElem?
  intro c
  rw [List.getElem?_set]
  by_cases hc : c < m
  · by_cases e : b = c
    · subst e
      rw [if_pos rfl, if_pos (by rw [bools_len]; exact hc), bools_at hc, if_pos rfl]
    · rw [if_neg e, bools_at hc, bools_at hc, if_neg (fun e' => e e'.symm)]
  · rw [List.getElem?_eq_none (l := bools m fun c => if c = b then x else f c) (by rw [bools_len]; omega), List.getElem?_eq_none (l := bools m f) (by rw [bools_len]; omega)]
    split
    · rw [if_neg (by rw [bools_len]; omega)]
    · rfl
theorem bools_false (m : Nat) : List.replicate m (Value.bool false) = bools m fun _ => false := by
  apply List.ext_getElem?
  intro c
  by_cases hc : c < m
  · rw [bools_at hc, List.getElem?_replicate, if_pos hc]
  · rw [List.getElem?_eq_none (by simp; omega), List.getElem?_eq_none (by rw [bools_len]; omega)]
theorem bools_congr {m : Nat} {f g : Nat → Bool} (h : ∀ b, b < m → f b = g b) : bools m f = bools m g := by
  unfold bools
  exact List.map_congr_left fun b hb => by rw [h b (by simpa using hb)]
structure TBv (w : World) (B : Nat) (eo eb : TypeId) (A : Option Addr) (n c : Nat) (vs : List Sl) (m : Nat) (f : Nat → Nat → Bool) : Prop where
  os : OS w B eo 1 A n c (vs.map slv)
  rows : ∀ (j : Nat) (v : Sl), vs[j]? = some v → v.2.1 = m ∧ OS w B eb 1 v.1 v.2.1 v.2.2 (bools m (f j))
  sep : ∀ (i j : Nat) (v u : Sl), i ≠ j → vs[i]? = some v → vs[j]? = some u → apart v u
  ne : eo ≠ eb
def TB (w : World) (B : Nat) (eo eb : TypeId) (A : Option Addr) (n c m : Nat) (f : Nat → Nat → Bool) : Prop := ∃ vs, TBv w B eo eb A n c vs m f
section
variable {w w' : World} {B : Nat} {eo eb : TypeId} {A : Option Addr} {n c m : Nat} {vs : List Sl} {f g : Nat → Nat → Bool}
theorem TBv.len (h : TBv w B eo eb A n c vs m f) : vs.length = n := by have := h.os.len; simpa using this
theorem TBv.outer_row (h : TBv w B eo eb A n c vs m f) {j : Nat} {v : Sl} (hv : vs[j]? = some v) : blk v.1 = none ∨ blk v.1 ≠ blk A := OS.typed (h.rows j v hv).2 h.os (fun e => h.ne e.symm)
theorem TBv.kept {r : Option Nat} (h : TBv w B eo eb A n c vs m f) (hg : w.grownBy w' r) (h0 : blk A = none ∨ blk A ≠ r) (hr : ∀ (j : Nat) (v : Sl), vs[j]? = some v → blk v.1 = none ∨ blk v.1 ≠ r) : TBv w' B eo eb A n c vs m f :=
  ⟨h.os.kept hg h0, fun j v hv => ⟨(h.rows j v hv).1, (h.rows j v hv).2.kept hg (hr j v hv)⟩, h.sep, h.ne⟩
theorem TBv.below (h : TBv w B eo eb A n c vs m f) (hb : Below w.heap.size w w') : TBv w' B eo eb A n c vs m f :=
  h.kept (r := none) (grownBy_of_below hb none) (by cases A <;> simp [blk]) (fun j v _ => by obtain ⟨a, b, c⟩ := v; cases a <;> simp [blk])
theorem TB.below (h : TB w B eo eb A n c m f) (hb : Below w.heap.size w w') : TB w' B eo eb A n c m f := by
  obtain ⟨vs, h⟩ := h
  exact ⟨vs, h.below hb⟩
theorem TB.more {B' : Nat} (h : TB w B eo eb A n c m f) (hB : B' ≤ B) : TB w B' eo eb A n c m f := by
  obtain ⟨vs, h⟩ := h
  exact ⟨vs, h.os.more hB, fun j v hv => ⟨(h.rows j v hv).1, (h.rows j v hv).2.more hB⟩, h.sep, h.ne⟩
theorem TB.setLow (h : TB w B eo eb A n c m f) {p : Addr} (hp : p.block < B) (u : Value) : TB (w.setCell p u) B eo eb A n c m f := by
  obtain ⟨vs, h⟩ := h
  exact ⟨vs, h.os.setLow hp u, fun j v hv => ⟨(h.rows j v hv).1, (h.rows j v hv).2.setLow hp u⟩, h.sep, h.ne⟩
theorem TB.of_own (h : OS w B eo 1 A 0 c []) (hne : eo ≠ eb) : TB w B eo eb A 0 c m f :=
  ⟨[], h, fun j v h => by simp at h, fun i j v u _ h => by simp at h, hne⟩
theorem TB.nil_ (w : World) (B : Nat) {eo eb : TypeId} (hne : eo ≠ eb) (m : Nat) (f : Nat → Nat → Bool) : TB w B eo eb none 0 0 m f := TB.of_own (OS.nil_ w B eo 1) hne
theorem TB.cap (h : TB w B eo eb A n c m f) : n ≤ c ∧ c ≤ 9223372036854775807 := by obtain ⟨vs, h⟩ := h; exact h.os.cap
theorem TB.congr (h : TB w B eo eb A n c m f) (hg : ∀ a b, a < n → b < m → f a b = g a b) : TB w B eo eb A n c m g := by
  obtain ⟨vs, h⟩ := h
  refine ⟨vs, h.os, fun j v hv => ⟨(h.rows j v hv).1, ?_⟩, h.sep, h.ne⟩
  have hj : j < n := by rw [← h.len]; exact (List.getElem?_eq_some_iff.1 hv).1
  rw [← bools_congr (f := f j) fun b hb => hg j b hj hb]
  exact (h.rows j v hv).2
/-- a row's header, and what stands in it -/
theorem TBv.get (h : TBv w B eo eb A n c vs m f) {k : Nat} (hk : k < n) : ∃ g v, A = some ⟨g, 0, none⟩ ∧ vs[k]? = some v ∧ w.cell? ⟨g, k, none⟩ = some (.slice v.1 m v.2.2) ∧ m ≤ v.2.2 ∧ v.2.2 ≤ 9223372036854775807 ∧
    (∀ b, b < m → ∃ r, v.1 = some ⟨r, 0, none⟩ ∧ w.cell? ⟨r, b, none⟩ = some (.bool (f k b)) ∧ w.frozen? ⟨r, b, none⟩ = false ∧ B ≤ r ∧ r < w.heap.size) := by
  have hj : k < vs.length := by rw [h.len]; exact hk
  have hv := List.getElem?_eq_getElem hj
  obtain ⟨g, ha, hc, hf⟩ := h.os.cell (j := k) (u := slv vs[k]) (by rw [List.getElem?_map, hv]; rfl)
  obtain ⟨e, ho⟩ := h.rows k _ hv
  refine ⟨g, vs[k], ha, hv, ?_, ?_, ho.cap.2, fun b hb => ?_⟩
  · rw [hc]; unfold slv; rw [e]
  · have := ho.cap.1; omega
  · obtain ⟨r, hr, hcr, hfr⟩ := ho.cell (bools_at hb)
    have := ho.lt (k := r) (by rw [hr]; rfl)
    exact ⟨r, hr, hcr, hfr, this.1, this.2⟩
/-- a truth value is written over -/
theorem TBv.set (h : TBv w B eo eb A n c vs m f) {k : Nat} {v : Sl} {r : Nat} (hv : vs[k]? = some v) (hr : v.1 = some ⟨r, 0, none⟩) (b : Nat) (x : Bool) :
    TBv (w.setCell ⟨r, b, none⟩ (.bool x)) B eo eb A n c vs m (fun a d => if a = k ∧ d = b then x else f a d) := by
  have hg : w.grownBy (w.setCell ⟨r, b, none⟩ (.bool x)) (blk v.1) := by rw [hr]; exact grown_set
  have hou := h.outer_row hv
  refine ⟨h.os.kept hg ?_, fun j u hu => ⟨(h.rows j u hu).1, ?_⟩, h.sep, h.ne⟩
  · rcases hou with h1 | h1
    · rw [hr] at h1; cases h1
    · exact .inr fun e => h1 e.symm
  · by_cases e : j = k
    · subst e
      rw [hv] at hu
      injection hu with hu
      subst hu
      have ho := (h.rows j v hv).2
      obtain ⟨v1, v2, v3⟩ := v
      simp only at hr
      subst hr
      have := ho.set b (.bool x)
      rw [bools_set] at this
      rwa [bools_congr (g := fun d => if j = j ∧ d = b then x else f j d) fun d _ => by simp] at this
    · have ho := (h.rows j u hu).2.kept hg (h.sep j k u v e hu hv)
      rwa [bools_congr (g := fun d => if j = k ∧ d = b then x else f j d) fun d _ => by simp [e]] at ho
/-- a further row -/
theorem TBv.push (h : TBv w B eo eb A n c vs m f) {v : Sl} (hm : v.2.1 = m) (ho : OS w B eb 1 v.1 v.2.1 v.2.2 (bools m (f n))) (hap : ∀ (j : Nat) (u : Sl), vs[j]? = some u → apart u v)
    {A' : Option Addr} {c' : Nat} (hg : w.grownBy w' (blk A)) (hos : OS w' B eo 1 A' (n + 1) c' (vs.map slv ++ [.slice v.1 v.2.1 v.2.2])) : TB w' B eo eb A' (n + 1) c' m f := by
  have hvA : blk v.1 = none ∨ blk v.1 ≠ blk A := OS.typed ho h.os (fun e => h.ne e.symm)
  have hlen := h.len
  refine ⟨vs ++ [v], by simpa [slv] using hos, fun j u hu => ?_, fun i j u x hij hu hx => ?_, h.ne⟩
  · rw [List.getElem?_append] at hu
    split at hu
    · exact ⟨(h.rows j u hu).1, (h.rows j u hu).2.kept hg (h.outer_row hu)⟩
    · have hj := (List.getElem?_eq_some_iff.1 hu).1
      simp at hj
      have e : j = n := by omega
      rw [e, hlen, Nat.sub_self] at hu
      simp at hu
      subst hu
      subst e
      exact ⟨hm, ho.kept hg hvA⟩
  · rw [List.getElem?_append] at hu hx
    split at hu
    · split at hx
      · exact h.sep i j u x hij hu hx
      · have : x = v := by simpa using List.mem_of_getElem? hx
        subst this
        exact hap i u hu
    · have hu' : u = v := by simpa using List.mem_of_getElem? hu
      subst hu'
      split at hx
      · exact (hap j x hx).symm
      · have a1 := (List.getElem?_eq_some_iff.1 hu).1
        have a2 := (List.getElem?_eq_some_iff.1 hx).1
        simp at a1 a2
        omega
theorem TBv.apart_new (h : TBv w B eo eb A n c vs m f) {v : Sl} (hn : ∀ b, blk v.1 = some b → w.heap.size ≤ b) : ∀ (j : Nat) (u : Sl), vs[j]? = some u → apart u v := fun j u hu => by
  unfold apart
  cases hb : blk u.1 with
  | none => exact .inl rfl
  | some b =>
    refine .inr fun e => ?_
    have h1 := ((h.rows j u hu).2.lt hb).2
    have h2 := hn b e.symm
    omega
end
end Go.Proofs.YtncknfhfkmmhbaaGreat
