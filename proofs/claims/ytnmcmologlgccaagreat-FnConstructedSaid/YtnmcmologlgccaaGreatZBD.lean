/- Complements of bases are balanced and have no failing condition, checked. No program in sight. -/
import Derived.Test.YtnmcmologlgccaaGreatZBC
import Derived.Test.YtnmcmologlgccaaGreatProg
import Derived.Test.YtnmcmologlgccaaGreatZAA
import Derived.Test.YtnmcmologlgccaaGreatZAB
import Derived.Deep.QuietTactic
import Derived.BigQuiet
import Derived.StillTailTactics
import Derived.Laws.Bits64b
import Derived.Laws.Closers25b
import Derived.Test.YtnmcmologlgccaaGreatZBA
set_option linter.unusedVariables false
set_option linter.unusedSimpArgs false
namespace Go.Proofs.YtnmcmologlgccaaGreat

def cplCk (v k l l' : Nat) : Bool := decide (bnC v k l = 0) && inRng v ((v : Int) - k) (cplL v k l) && decide (cplL v k l = l')
def cplT (v k' l' : Nat) (L : List (List Int)) : Bool := (List.range 1001).all fun l => !(cplCk v (v - k') l l') || (balM v (isortR (cmlB v L)) (v - k') l && (fails v (v - k' : Nat) l).isEmpty)
def comT (v k' : Nat) : Bool := decide (v < 3) || decide (k' < 2) || decide (v ≤ k') || decide (128 < chP v k') || (List.range 1001).all fun l => !(cplCk v (v - k') l (chP (v - 2) (k' - 2))) || (decide (l = chP (v - 2) (v - k' - 2)) && decide (chP v (v - k') ≤ 128))
set_option maxRecDepth 100000 in
theorem comT_all : ((List.range 33).all fun v => (List.range 33).all fun k => comT v k) = true := by decide +kernel
def comF (v k : Nat) : Bool := decide (v < 3) || decide (k < 2) || decide (v ≤ k) || decide (128 < chP v k) || (fails v k (chP (v - 2) (k - 2) : Nat)).isEmpty
set_option maxRecDepth 100000 in
theorem comF_all : ((List.range 33).all fun v => (List.range 33).all fun k => comF v k) = true := by decide +kernel
set_option maxRecDepth 100000 in
theorem othF_all : (([7, 9, 13, 15, 19, 21, 25, 27].all fun v => (fails (v : Nat) (3 : Nat) (1 : Nat)).isEmpty) && ([2, 3, 4, 5].all fun k => (fails (k * k : Nat) k (1 : Nat)).isEmpty) && ([2, 3, 4, 5].all fun q => (fails (q * q + q + 1 : Nat) (q + 1 : Nat) (1 : Nat)).isEmpty) &&
  ([7, 11, 19, 23, 31].all fun v => (fails (v : Nat) ((v - 1) / 2 : Nat) ((v - 3) / 4 : Nat)).isEmpty) && (fails (15 : Nat) (7 : Nat) (3 : Nat)).isEmpty && (fails (27 : Nat) (13 : Nat) (6 : Nat)).isEmpty) = true := by decide +kernel
end Go.Proofs.YtnmcmologlgccaaGreat
/- Complements of bases, checked, continued. No program in sight. -/
namespace Go.Proofs.YtnmcmologlgccaaGreat
set_option maxRecDepth 100000 in
theorem cpl_tri : ([7, 9, 13, 15, 19, 21, 25, 27].all fun v => cplT v 3 1 (isortR (triLC v))) = true := by decide +kernel
set_option maxRecDepth 100000 in
theorem cpl_aff : ([2, 3, 4, 5].all fun k => cplT (k * k) k 1 (isortR (affQ k))) = true := by decide +kernel
end Go.Proofs.YtnmcmologlgccaaGreat
/- Complements of bases, checked, continued. No program in sight. -/
namespace Go.Proofs.YtnmcmologlgccaaGreat
set_option maxRecDepth 100000 in
theorem cpl_prj : ([2, 3, 4, 5].all fun q => cplT (q * q + q + 1) (q + 1) 1 (isortR (prjQ q))) = true := by decide +kernel
set_option maxRecDepth 100000 in
theorem cpl_dif : ([7, 11, 19, 23, 31].all fun v => cplT v ((v - 1) / 2) ((v - 3) / 4) (isortR (devC v (sqK v v) v))) = true := by decide +kernel
set_option maxRecDepth 100000 in
theorem cpl_had : (cplT 15 7 3 (isortR (hdL H16)) && cplT 27 13 6 (isortR (hdL H28))) = true := by decide +kernel
end Go.Proofs.YtnmcmologlgccaaGreat
/- Every design that is constructed is balanced and has no failing condition. No program in sight. -/
namespace Go.Proofs.YtnmcmologlgccaaGreat
open Go.RowKit

theorem cplT_at {v k' l' l : Nat} {L : List (List Int)} (h : cplT v k' l' L = true) (hl : l ≤ 1000) (hc : cplCk v (v - k') l l' = true) : Bal v (srtR (cmlB v L)) (v - k') l ∧ fails v (v - k' : Nat) l = [] := by
  have a := List.all_eq_true.1 h l (List.mem_range.2 (by omega))
  rw [hc] at a
  simp only [Bool.not_true, Bool.false_or, Bool.and_eq_true, List.isEmpty_iff] at a
  rw [srtR_isort]
  exact ⟨balM_bal a.1, a.2⟩
theorem comT_at {v k' l : Nat} (h3 : 3 ≤ v) (hv : v ≤ 32) (h2 : 2 ≤ k') (hk : k' < v) (h : chP v k' ≤ 128) (hl : l ≤ 1000) (hc : cplCk v (v - k') l (chP (v - 2) (k' - 2)) = true) : l = chP (v - 2) (v - k' - 2) ∧ chP v (v - k') ≤ 128 := by
  have a := List.all_eq_true.1 (List.all_eq_true.1 comT_all v (List.mem_range.2 (by omega))) k' (List.mem_range.2 (by omega))
  unfold comT at a
  have e1 : decide (v < 3) = false := by simp; omega
  have e2 : decide (k' < 2) = false := by simp; omega
  have e3 : decide (v ≤ k') = false := by simp; omega
  have e4 : decide (128 < chP v k') = false := by simp; omega
  rw [e1, e2, e3, e4, Bool.false_or, Bool.false_or, Bool.false_or, Bool.false_or] at a
  have b := List.all_eq_true.1 a l (List.mem_range.2 (by omega))
  rw [hc] at b
  simpa using b
theorem comF_at {v k : Nat} (h3 : 3 ≤ v) (hv : v ≤ 32) (h2 : 2 ≤ k) (hk : k < v) (h : chP v k ≤ 128) : fails v k (chP (v - 2) (k - 2) : Nat) = [] := by
  have a := List.all_eq_true.1 (List.all_eq_true.1 comF_all v (List.mem_range.2 (by omega))) k (List.mem_range.2 (by omega))
  unfold comF at a
  have e1 : decide (v < 3) = false := by simp; omega
  have e2 : decide (k < 2) = false := by simp; omega
  have e3 : decide (v ≤ k) = false := by simp; omega
  have e4 : decide (128 < chP v k) = false := by simp; omega
  rw [e1, e2, e3, e4, Bool.false_or, Bool.false_or, Bool.false_or, Bool.false_or, List.isEmpty_iff] at a
  exact a
theorem Base.fails {v k l : Nat} {bs : List (List Int)} (h : Base v k l bs) : fails v k l = [] := by
  have ha := othF_all
  simp only [Bool.and_eq_true, List.all_eq_true, List.isEmpty_iff] at ha
  obtain ⟨⟨⟨⟨⟨a1, a2⟩, a3⟩, a4⟩, a5⟩, a6⟩ := ha
  cases h with
  | com h3 hv h2 hk h hL => exact comF_at h3 hv h2 hk h
  | tri h => exact a1 v h
  | aff h => exact a2 k h
  | prj h => exact a3 _ h
  | dif h => exact a4 v h
  | h15 => exact a5
  | h27 => exact a6
theorem cpl_ok {v k l : Nat} {bs : List (List Int)} (hr : InR v k l) (hn : fstD v k l = none) (h : cplO v k l = some bs) : Bal v bs k l ∧ fails v k l = [] := by
  have hr0 := hr
  obtain ⟨v3, v32, k2, kv, l1, l1000⟩ := hr
  unfold cplO at h
  split at h
  · rename_i hc
    cases hf : fstD v (v - k) (cplL v k l).toNat with
    | none => rw [hf] at h; cases h
    | some x =>
      obtain ⟨c, L⟩ := x
      rw [hf] at h
      obtain rfl : srtR (cmlB v L) = bs := by injection h
      have hkv : (v : Int) - k = ((v - k : Nat) : Int) := by omega
      have hpos : 1 ≤ cplL v k l := by have := inRng_true hc.2; omega
      obtain ⟨m, hm⟩ : ∃ m : Nat, cplL v k l = (m : Int) := ⟨(cplL v k l).toNat, by omega⟩
      have hc2 := hc.2
      rw [hm, hkv] at hc2
      rw [hm, Int.toNat_natCast] at hf
      have hb := fst_base (inRng_of hc2 v32) hf
      have hck : cplCk v k l m = true := by
        unfold cplCk
        rw [hm, hkv, hc2, hc.1]
        simp
      have hkk : k = v - (v - k) := by omega
      have hk1 : v - k < v := by omega
      have hk2 : 2 ≤ v - k := by have := inRng_true hc2; omega
      generalize v - k = k' at *
      subst hkk
      clear h hf hr0
      cases hb with
      | com h3 hv h2 hk h hL =>
        exfalso
        obtain ⟨e1, e2⟩ := comT_at h3 hv h2 hk h l1000 hck
        obtain ⟨L', e3, _, _⟩ := com_at (v := v) (k := v - k') v3 v32 k2 (by omega) e2
        have hd : dirO 1 v (v - k') l = some (srtR L') := by unfold dirO; rw [if_pos rfl, if_pos ⟨e1, e2⟩, e3]; rfl
        unfold fstD fstO at hn
        rw [hd] at hn
        cases hn
      | tri h => exact cplT_at (List.all_eq_true.1 cpl_tri v h) l1000 hck
      | aff h => exact cplT_at (List.all_eq_true.1 cpl_aff _ h) l1000 hck
      | prj h => exact cplT_at (List.all_eq_true.1 cpl_prj _ h) l1000 hck
      | dif h => exact cplT_at (List.all_eq_true.1 cpl_dif v h) l1000 hck
      | h15 => have := cpl_had; simp only [Bool.and_eq_true] at this; exact cplT_at this.1 l1000 hck
      | h27 => have := cpl_had; simp only [Bool.and_eq_true] at this; exact cplT_at this.2 l1000 hck
  · cases h
theorem smp_ok {v k l c : Nat} {bs : List (List Int)} (hr : InR v k l) (h : smpD v k l = some (c, bs)) : Bal v bs k l ∧ fails v k l = [] ∧ 1 ≤ c ∧ c ≤ 7 := by
  unfold smpD at h
  cases hf : fstD v k l with
  | some x =>
    rw [hf] at h
    injection h with h
    subst h
    obtain ⟨h1, h2, _, _⟩ := fst_inv hf
    have hb := fst_base hr hf
    exact ⟨hb.bal, hb.fails, h1, by omega⟩
  | none =>
    rw [hf] at h
    cases hc : cplO v k l with
    | none => rw [hc] at h; cases h
    | some L =>
      rw [hc] at h
      simp only [Option.map_some, Option.some.injEq, Prod.mk.injEq] at h
      obtain ⟨rfl, rfl⟩ := h
      obtain ⟨h1, h2⟩ := cpl_ok hr hf hc
      exact ⟨h1, h2, by omega, by omega⟩
theorem simpOk : SimpOk := ⟨baseOk, fun _ _ _ _ _ hr h => (smp_ok hr h).1⟩
/-! copies -/
theorem Bal.of_pairs {v k : Nat} {lam : Int} {bs : List (List Int)} (hD : Design v bs) (v2 : 2 ≤ v) (b1 : 0 < bs.length) (len : ∀ i, i < bs.length → (row bs i).length = k) (k2 : 2 ≤ k) (h : ∀ a b : Nat, a < b → b < v → ((pairN bs (a : Int) (b : Int) : Nat) : Int) = lam) : Bal v bs k lam :=
  ⟨hD, v2, b1, len, k2, fun j hj => by
    rw [nth_get hj]
    have hm := List.getElem_mem hj
    generalize (prP v bs v)[j] = z at hm ⊢
    unfold prP at hm
    obtain ⟨a, ha, hz⟩ := List.mem_flatMap.1 hm
    unfold prB at hz
    obtain ⟨d, hd, hz⟩ := List.mem_map.1 hz
    have h1 := List.mem_range.1 ha
    have h2 := List.mem_range.1 hd
    rw [← hz]
    exact h a (a + 1 + d) (by omega) (by omega)⟩
theorem Bal.pairs {v k : Nat} {lam : Int} {bs : List (List Int)} (h : Bal v bs k lam) (a b : Nat) (hab : a < b) (hb : b < v) : ((pairN bs (a : Int) (b : Int) : Nat) : Int) = lam := by
  have hm : ((pairN bs (a : Int) (b : Int) : Nat) : Int) ∈ prP v bs v := by
    unfold prP
    refine List.mem_flatMap.2 ⟨a, List.mem_range.2 (by omega), ?_⟩
    unfold prB
    refine List.mem_map.2 ⟨b - a - 1, List.mem_range.2 (by omega), ?_⟩
    rw [show a + 1 + (b - a - 1) = b by omega]
  obtain ⟨j, hj, e⟩ := mem_nthB hm
  rw [← e]
  exact h.lam j hj
theorem repB_pairs (bs : List (List Int)) (a b : Int) (m : Nat) : pairN (repB bs m) a b = m * pairN bs a b := by
  induction m with
  | zero => simp [repB, pairN]
  | succ m ih =>
    unfold pairN at ih ⊢
    rw [repB, List.countP_append, ih, Nat.succ_mul]
theorem Bal.rep {v k m : Nat} {lam : Int} {bs : List (List Int)} (h : Bal v bs k lam) (hm : 1 ≤ m) (hl : m * bs.length ≤ 128) : Bal v (srtR (repB bs m)) k (m * lam) := by
  have hp := srtR_perm (repB bs m)
  have hlen : (srtR (repB bs m)).length = m * bs.length := by rw [hp.length_eq, repB_len]
  have hrow : ∀ i, i < (srtR (repB bs m)).length → ∃ q, q < bs.length ∧ row (srtR (repB bs m)) i = row bs q := fun i hi => by
    rw [row_get hi]
    have h1 := repB_mem (hp.mem_iff.1 (List.getElem_mem hi))
    obtain ⟨q, hq, e⟩ := mem_rowH h1
    exact ⟨q, hq, e.symm⟩
  refine Bal.of_pairs ⟨h.d.v1, h.d.v2, by omega, fun i hi => ?_, fun i hi => ?_⟩ h.v2 ?_ (fun i hi => ?_) h.k2 fun a b hab hb => ?_
  · obtain ⟨q, hq, e⟩ := hrow i hi
    rw [e]
    exact h.d.blk q hq
  · rw [row_get (by omega), row_get hi]
    exact List.pairwise_iff_getElem.1 (srtR_sorted (repB bs m)) i (i + 1) (by omega) hi (by omega)
  · rw [hlen]
    exact Nat.mul_pos hm h.b1
  · obtain ⟨q, hq, e⟩ := hrow i hi
    rw [e]
    exact h.len q hq
  · have h1 : pairN (srtR (repB bs m)) (a : Int) (b : Int) = pairN (repB bs m) (a : Int) (b : Int) := by unfold pairN; exact hp.countP_eq _
    rw [h1, repB_pairs, Int.natCast_mul, h.pairs a b hab hb]
/-- the numbers of blocks that follow -/
theorem Bal.nums {v k l : Nat} {bs : List (List Int)} (h : Bal v bs k l) (hr : InR v k l) :
    inRng v k l = true ∧ okB v k l = true ∧ okR v k l = true ∧ nB v k l = bs.length ∧ nR v k l = ((bs.flatten.count 0 : Nat) : Int) := by
  obtain ⟨v3, v32, k2, kv, l1, l1000⟩ := hr
  obtain ⟨L, r, hL, hrr, e1, e2, hle⟩ := h.eqs
  obtain rfl : l = L := by omega
  obtain ⟨v', rfl⟩ : ∃ v', v = v' + 1 := ⟨v - 1, by omega⟩
  obtain ⟨k', rfl⟩ : ∃ k', k = k' + 1 := ⟨k - 1, by omega⟩
  rw [Nat.succ_mul, Nat.succ_mul] at e1
  have f1 : r * k' = l * v' := by rw [Nat.mul_comm r, Nat.mul_comm l]; omega
  have f2 : bs.length * (k' + 1) * k' = l * (v' + 1) * v' := by
    rw [← e2, Nat.mul_assoc, f1, ← Nat.mul_assoc, Nat.mul_comm (v' + 1) l]
  have g1 : (((v' + 1 : Nat) : Int) - 1) = (v' : Int) := by omega
  have g2 : (((k' + 1 : Nat) : Int) - 1) = (k' : Int) := by omega
  have hB : (l : Int) * ((v' + 1 : Nat) : Int) * (((v' + 1 : Nat) : Int) - 1) = (bs.length : Int) * (((k' + 1 : Nat) : Int) * (((k' + 1 : Nat) : Int) - 1)) := by
    rw [g1, g2, ← Int.mul_assoc]
    exact_mod_cast f2.symm
  have hR : (l : Int) * (((v' + 1 : Nat) : Int) - 1) = (r : Int) * (((k' + 1 : Nat) : Int) - 1) := by
    rw [g1, g2]
    exact_mod_cast f1.symm
  have hne : ((k' + 1 : Nat) : Int) * (((k' + 1 : Nat) : Int) - 1) ≠ 0 := Int.mul_ne_zero (by omega) (by omega)
  refine ⟨?_, ?_, ?_, ?_, ?_⟩
  · unfold inRng
    rw [inB_mk ⟨by omega, by omega⟩, inB_mk ⟨by omega, by omega⟩, inB_mk ⟨by omega, by omega⟩]
    rfl
  · unfold okB
    rw [hB, Int.mul_emod_left]
    rfl
  · unfold okR
    rw [hR, Int.mul_emod_left]
    rfl
  · unfold nB
    rw [hB]
    exact Int.mul_ediv_cancel _ hne
  · unfold nR
    rw [hR, ← hrr]
    exact Int.mul_ediv_cancel _ (by omega)
theorem mul_inv {v k l : Nat} {bs : List (List Int)} : ∀ (f m : Nat), mulO v k l f m = some bs → ∃ m' c L, m ≤ m' ∧ m' < m + f ∧ l % m' = 0 ∧ smpD v k (l / m') = some (c, L) ∧ m' * L.length ≤ 128 ∧ bs = srtR (repB L m') := by
  intro f
  induction f with
  | zero => intro m h; cases h
  | succ f ih =>
    intro m h
    have next : mulO v k l f (m + 1) = some bs → ∃ m' c L, m ≤ m' ∧ m' < m + (f + 1) ∧ l % m' = 0 ∧ smpD v k (l / m') = some (c, L) ∧ m' * L.length ≤ 128 ∧ bs = srtR (repB L m') := fun h => by
      obtain ⟨m', c, L, h1, h2, h3⟩ := ih (m + 1) h
      exact ⟨m', c, L, by omega, by omega, h3⟩
    rw [mulO] at h
    split at h
    · rename_i hm
      cases hs : smpD v k (l / m) with
      | none => rw [hs] at h; exact next h
      | some x =>
        obtain ⟨c, L⟩ := x
        rw [hs] at h
        simp only at h
        split at h
        · rename_i hl
          injection h with h
          exact ⟨m, c, L, Nat.le_refl _, by omega, hm, hs, hl, h.symm⟩
        · exact next h
    · exact next h
/-- a design that is constructed -/
theorem con_ok {v k l c : Nat} {bs : List (List Int)} (hr : InR v k l) (h : conD v k l = some (c, bs)) : Bal v bs k l ∧ fails v k l = [] ∧ 1 ≤ c ∧ c ≤ 8 := by
  unfold conD at h
  cases hs : smpD v k l with
  | some x =>
    rw [hs] at h
    injection h with h
    subst h
    obtain ⟨h1, h2, h3, h4⟩ := smp_ok hr hs
    exact ⟨h1, h2, h3, by omega⟩
  | none =>
    rw [hs] at h
    cases hm : mulO v k l (l - 1) 2 with
    | none => rw [hm] at h; cases h
    | some L =>
      rw [hm] at h
      simp only [Option.map_some, Option.some.injEq, Prod.mk.injEq] at h
      obtain ⟨rfl, rfl⟩ := h
      obtain ⟨m, c, L0, h1, h2, h3, h4, h5, rfl⟩ := mul_inv _ _ hm
      have l1 := hr.l1
      have hrp := hr.part (m := m) (by omega) (by omega)
      obtain ⟨b1, b2, _, _⟩ := smp_ok hrp h4
      have hml : m * (l / m) = l := Nat.mul_div_cancel' (Nat.dvd_of_mod_eq_zero h3)
      have hB := b1.rep (m := m) (by omega) h5
      rw [show (m : Int) * ((l / m : Nat) : Int) = (l : Int) by rw [← Int.natCast_mul, hml]] at hB
      refine ⟨hB, ?_, by omega, by omega⟩
      obtain ⟨_, n1, n2, n3, _⟩ := b1.nums hrp
      obtain ⟨_, p1, p2, p3, _⟩ := hB.nums hr
      have hge : (v : Int) ≤ (L0.length : Int) := by
        unfold Go.Proofs.YtnmcmologlgccaaGreat.fails at b2
        rw [n1, n2, Bool.and_true, if_pos rfl] at b2
        split at b2
        · cases b2
        · rw [n3] at *
          omega
      have hlen : (srtR (repB L0 m)).length = m * L0.length := by rw [(srtR_perm (repB L0 m)).length_eq, repB_len]
      have hgt : (v : Int) < nB v k l := by
        rw [p3, hlen]
        have : 2 * L0.length ≤ m * L0.length := Nat.mul_le_mul h1 (Nat.le_refl _)
        have := hr.v3
        omega
      unfold Go.Proofs.YtnmcmologlgccaaGreat.fails
      rw [p1, p2, Bool.and_true, if_pos rfl, if_neg (by omega), if_neg (by omega)]
end Go.Proofs.YtnmcmologlgccaaGreat
/- What the drawn laws share: lengths of inputs, numbers chosen by bytes, numbers looked for in a list. No condition beyond those stated. -/
namespace Go.Proofs.YtnmcmologlgccaaGreat
open Go.RowKit

set_option maxHeartbeats 400000 in
theorem b10Long_yes (A : Option Addr) (n c : Nat) (w : World) (hn : 1048576 < n) : Calls Tryz.prog 5 #[.slice A n c] w fun e w' => e = .returned (.bool true) ∧ w = w' := by
  have h : (n : Int) > 1048576 := by omega
  go_enter Tryz.func5, Tryz.ntmps5
  go_wp2
  go_ret
  exact ⟨by simp, rfl⟩
set_option maxHeartbeats 400000 in
theorem b10Long_no (A : Option Addr) (n c : Nat) (w : World) (hn : n ≤ 1048576) : Calls Tryz.prog 5 #[.slice A n c] w fun e w' => e = .returned (.bool false) ∧ w = w' := by
  have h : ¬ (n : Int) > 1048576 := by omega
  go_enter Tryz.func5, Tryz.ntmps5
  go_wp2
  go_ret
  exact ⟨by simp, rfl⟩
end Go.Proofs.YtnmcmologlgccaaGreat
/- The source of choices that a law draws its input from: what a call returns lies in its range, and nothing else is touched. No condition beyond those stated. -/
namespace Go.Proofs.YtnmcmologlgccaaGreat
open Go.RowKit

/-- some draws on -/
def Drawn' (w w' : World) : Prop := ∃ q, w' = w.drewN q
theorem Drawn'.below {a b : World} (h : Drawn' a b) : Below a.heap.size a b := by
  obtain ⟨p, rfl⟩ := h
  exact below_drewn _ _
/-- block g is a source of choices, p of them made -/
def Src (w : World) (g p : Nat) : Prop := ∃ (A : Option Addr) (n c : Nat) (bs : List Int) (sd : Int),
  Blk w g 68 #[.slice A n c, .int .i64 p, .int .u64 sd] ∧ RS EByte w A n bs ∧ (0 < n → ∀ a, A = some a → a.block < g) ∧ n ≤ 9223372036854775807 ∧ 0 ≤ sd ∧ sd ≤ 18446744073709551615
theorem Src.lt {w : World} {g p : Nat} (h : Src w g p) : g < w.heap.size := by
  obtain ⟨A, n, c, bs, sd, hB, _⟩ := h
  exact hB.lt
theorem Src.kept {w w' : World} {g p : Nat} {r : Option Nat} (h : Src w g p) (hg : w.grownBy w' r) (hr : ∀ b, r = some b → g < b) : Src w' g p := by
  obtain ⟨A, n, c, bs, sd, hB, hR, hA, rest⟩ := h
  refine ⟨A, n, c, bs, sd, hB.grown hg (fun e => by have := hr g e.symm; omega), ⟨hR.len, fun j x hx => ?_⟩, hA, rest⟩
  obtain ⟨ad, u, ha, hc, he⟩ := hR.at_ j x hx
  have hlt := hA (by have := hR.len; have := (List.getElem?_eq_some_iff.1 hx).1; omega) ad ha
  exact ⟨ad, u, ha, hg.cell hc (fun e => by rw [add_block] at e; have := hr _ e.symm; omega), he⟩
theorem Src.below {w w' : World} {g p : Nat} (h : Src w g p) (hb : Below w.heap.size w w') : Src w' g p := h.kept (grownBy_of_below hb none) (fun _ e => by cases e)

/-- what a call of a source leaves: a number from lo to hi, the source some choices on -/
def Drew (w : World) (g p k : Nat) (lo hi : Int) (e : Ending) (w' : World) : Prop :=
  ∃ (x : Int) (q : Nat), e = .returned (.int .i64 x) ∧ lo ≤ x ∧ x ≤ hi ∧ q ≤ p + k ∧ Src w' g q ∧ w.grownBy w' (some g)

theorem u64_bd (n : Int) : 0 ≤ IntKind.u64.wrap n ∧ IntKind.u64.wrap n ≤ 18446744073709551615 := by
  rw [IntKind.wrap_u64]
  omega
theorem grown_putS {w : World} {g p : Nat} {u : Value} : w.grownBy (w.setCell ⟨g, p, none⟩ u) (some g) :=
  ⟨rfl, rfl, rfl, by simp [World.setCell], fun k _ hk => Below.heap_setCell _ _ _ _ (fun e => hk (by rw [e]))⟩
theorem grown_drewN (w : World) (n : Nat) (r : Option Nat) : w.grownBy (w.drewN n) r := grownBy_of_below (below_drewn w n) r

theorem EBytes.keep {w w' : World} {A : Option Addr} {n : Nat} {bs : List Int} (h : RS EByte w A n bs) (hb : Below w.heap.size w w') : RS EByte w' A n bs := RS.keep keeps_EByte h hb
theorem EBytes.grown {w w' : World} {g : Nat} {A : Option Addr} {n : Nat} {bs : List Int} (h : RS EByte w A n bs) (hg : w.grownBy w' (some g)) (hA : 0 < n → ∀ a, A = some a → a.block < g) : RS EByte w' A n bs :=
  ⟨h.len, fun j x hx => let ⟨ad, u, ha, hc, he⟩ := h.at_ j x hx; ⟨ad, u, ha, hg.cell hc (fun e => by rw [add_block] at e; injection e with e; have := hA (by have := h.len; have := (List.getElem?_eq_some_iff.1 hx).1; omega) ad ha; omega), he⟩⟩
theorem Src.set {w w' : World} {g p q : Nat} {A : Option Addr} {n c : Nat} {bs : List Int} {sd : Int} (hg : w.grownBy w' (some g)) (hB : Blk w' g 68 #[.slice A n c, .int .i64 q, .int .u64 sd]) (hR : RS EByte w A n bs) (hA : 0 < n → ∀ a, A = some a → a.block < g) (hn : n ≤ 9223372036854775807) (h1 : 0 ≤ sd) (h2 : sd ≤ 18446744073709551615) : Src w' g q :=
  ⟨A, n, c, bs, sd, hB, EBytes.grown hR hg hA, hA, hn, h1, h2⟩
theorem bits_and255 (x : Int) (h : 0 ≤ x) (h2 : x ≤ 18446744073709551615) : 0 ≤ bits BinOp.and IntKind.u64 x 255 ∧ bits BinOp.and IntKind.u64 x 255 ≤ 255 := by
  have e := bits_and_u64_nat x.toNat 255 (by omega) (by omega)
  rw [Int.toNat_of_nonneg h] at e
  have e2 : bits BinOp.and IntKind.u64 x 255 = ((x.toNat &&& 255 : Nat) : Int) := e
  have := Nat.and_le_right (n := x.toNat) (m := 255)
  omega
theorem next_tail (x : Int) (h : 0 ≤ x) (h2 : x ≤ 18446744073709551615) : 0 ≤ wrap64 (bits BinOp.and IntKind.u64 (x / 1099511627776) 255) ∧ wrap64 (bits BinOp.and IntKind.u64 (x / 1099511627776) 255) ≤ 255 := by
  have h := bits_and255 (x / 1099511627776) (by omega) (by omega)
  have e : wrap64 (bits BinOp.and IntKind.u64 (x / 1099511627776) 255) = bits BinOp.and IntKind.u64 (x / 1099511627776) 255 := IntWalk.wrap64_in _ (by omega)
  rw [e]
  exact h
theorem nth_in {zs : List Int} {k : Nat} (h : k < zs.length) : nth zs k ∈ zs := by rw [nth_get h]; exact List.getElem_mem h

set_option maxHeartbeats 1000000 in
theorem next_any (g p : Nat) (w : World) (hs : Src w g p) (hp : p ≤ 1125899906842624) :
    Calls Tryz.prog 37 #[.pointer (some ⟨g, 0, none⟩)] w (Drew w g p 1 0 255) := by
  obtain ⟨A, n, c, bs, sd, hB, hR, hA, hn, hs1, hs2⟩ := hs
  obtain ⟨k1, k2, k3⟩ := hB.cells3
  by_cases hlt : p < n
  · obtain ⟨ad, u, x, rfl, hx, hc, rfl, x0, x1⟩ := hR.get hlt
    have HRd := Lib.hid hR
    clear hR hx
    go_enter Tryz.func37, Tryz.ntmps37
    go_wp2
    go_quiet (fail)
    go_wp2
    go_quiet (fail)
    generalize hwa : w.drewN _ = wa
    have hd : Drawn w wa := ⟨_, hwa.symm⟩
    have hB2 := hB.after hd.below
    clear hwa k1 k2 k3 hc
    obtain ⟨k1, k2, k3⟩ := hB2.cells3
    have f1 := hB2.frozen 1
    have f2 := hB2.frozen 2
    go_wp2
    obtain ⟨sd2, hsd⟩ : ∃ sd2, IntKind.u64.wrap (IntKind.u64.wrap (IntKind.u64.wrap (sd * 6364136223846793005) + x) + 1442695040888963407) = sd2 := ⟨_, rfl⟩
    rw [hsd]
    have hsb := u64_bd (IntKind.u64.wrap (IntKind.u64.wrap (sd * 6364136223846793005) + x) + 1442695040888963407)
    rw [hsd] at hsb
    have hB3 : Blk (((wa.drewN nq).setCell ⟨g, 1, none⟩ (.int .i64 ((p : Int) + 1))).setCell ⟨g, 2, none⟩ (.int .u64 sd2)) g 68 #[.slice (some ad) n c, .int .i64 ((p : Int) + 1), .int .u64 sd2] :=
      ((hB2.after (below_drewn wa nq)).set_ 1 (.int .i64 ((p : Int) + 1))).set_ 2 (.int .u64 sd2)
    have hgr : w.grownBy (((wa.drewN nq).setCell ⟨g, 1, none⟩ (.int .i64 ((p : Int) + 1))).setCell ⟨g, 2, none⟩ (.int .u64 sd2)) (some g) :=
      (((grownBy_of_below hd.below (some g)).trans (grown_drewN wa nq (some g))).trans grown_putS).trans grown_putS
    clear hsd k1 k2 k3 f1 f2 hB2 hd
    generalize ((wa.drewN nq).setCell ⟨g, 1, none⟩ (.int .i64 ((p : Int) + 1))).setCell ⟨g, 2, none⟩ (.int .u64 sd2) = wb at *
    obtain ⟨k1, k2, k3⟩ := hB3.cells3
    have hlt2 : p + 1 ≤ n := hlt
    go_quiet (fail)
    go_wp2
    go_ret
    refine ⟨x, p + 1, rfl, x0, x1, Nat.le_refl _, Src.set (w := w) (p := p) (hgr.trans (grown_drewN wb nq (some g))) (hB3.after (below_drewn wb nq)) HRd.out hA hn hsb.1 hsb.2, hgr.trans (grown_drewN wb nq (some g))⟩
  · have hlt' : n ≤ p := by omega
    have HRd := Lib.hid hR
    clear hR
    go_enter Tryz.func37, Tryz.ntmps37
    go_wp2
    go_quiet (fail)
    generalize hwa : w.drewN _ = wa
    have hd : Drawn w wa := ⟨_, hwa.symm⟩
    have hB2 := hB.after hd.below
    clear hwa k1 k2 k3
    obtain ⟨k1, k2, k3⟩ := hB2.cells3
    have f1 := hB2.frozen 1
    have f2 := hB2.frozen 2
    go_wp2
    obtain ⟨sd2, hsd⟩ : ∃ sd2, IntKind.u64.wrap (IntKind.u64.wrap (IntKind.u64.wrap (sd * 6364136223846793005)) + 1442695040888963407) = sd2 := ⟨_, rfl⟩
    rw [hsd]
    have hsb := u64_bd (IntKind.u64.wrap (IntKind.u64.wrap (sd * 6364136223846793005)) + 1442695040888963407)
    rw [hsd] at hsb
    have hB3 : Blk ((wa.setCell ⟨g, 1, none⟩ (.int .i64 ((p : Int) + 1))).setCell ⟨g, 2, none⟩ (.int .u64 sd2)) g 68 #[.slice A n c, .int .i64 ((p : Int) + 1), .int .u64 sd2] :=
      (hB2.set_ 1 (.int .i64 ((p : Int) + 1))).set_ 2 (.int .u64 sd2)
    have hgr : w.grownBy ((wa.setCell ⟨g, 1, none⟩ (.int .i64 ((p : Int) + 1))).setCell ⟨g, 2, none⟩ (.int .u64 sd2)) (some g) :=
      ((grownBy_of_below hd.below (some g)).trans grown_putS).trans grown_putS
    have HSB := Lib.hid hsb
    have HT := Lib.hid (next_tail sd2 hsb.1 hsb.2)
    clear hsd k1 k2 k3 f1 f2 hB2 hd hsb
    generalize (wa.setCell ⟨g, 1, none⟩ (.int .i64 ((p : Int) + 1))).setCell ⟨g, 2, none⟩ (.int .u64 sd2) = wb at *
    obtain ⟨k1, k2, k3⟩ := hB3.cells3
    have hlt2 : ¬ p + 1 ≤ n := by omega
    have hdc : decide ((p : Int) + 1 ≤ (n : Int)) = false := by simp; omega
    go_quiet (fail)
    clear hdc
    have hB4 := hB3.after (below_drewn wb nq)
    have hg4 := hgr.trans (grown_drewN wb nq (some g))
    generalize wb.drewN nq = wc at *
    clear k1 k2 k3
    obtain ⟨k1, k2, k3⟩ := hB4.cells3
    go_wp2
    go_ret
    exact ⟨_, p + 1, rfl, HT.out.1, HT.out.2, Nat.le_refl _, Src.set (w := w) (p := p) hg4 hB4 HRd.out hA hn HSB.out.1 HSB.out.2, hg4⟩
/-- 'pick(n)': a number from 0 to n - 1; 0 where n is 1 or less -/
theorem pick_low (g : Nat) (n : Int) (w : World) (hn : n ≤ 1) : Calls Tryz.prog 17 #[.pointer (some ⟨g, 0, none⟩), .int .i64 n] w fun e w' => e = .returned (.int .i64 0) ∧ w = w' := by
  go_enter Tryz.func17, Tryz.ntmps17
  go_wp2
  go_ret
  exact ⟨rfl, rfl⟩
theorem Drew.mk {w w' : World} {g p k q : Nat} {lo hi x : Int} (h1 : lo ≤ x) (h2 : x ≤ hi) (hq : q ≤ p + k) (hs : Src w' g q) (hg : w.grownBy w' (some g)) : Drew w g p k lo hi (.returned (.int .i64 x)) w' := ⟨x, q, rfl, h1, h2, hq, hs, hg⟩
set_option maxHeartbeats 1000000 in
theorem pick_any (g p : Nat) (n : Int) (w : World) (hs : Src w g p) (hp : p ≤ 1125899906842623) (h1 : 1 ≤ n) (h2 : n ≤ 60000) :
    Calls Tryz.prog 17 #[.pointer (some ⟨g, 0, none⟩), .int .i64 n] w (Drew w g p 2 0 (n - 1)) := by
  by_cases h0 : n ≤ 1
  · refine (pick_low g n w h0).mono ?_
    rintro e w' ⟨rfl, rfl⟩
    exact Drew.mk (Int.le_refl _) (by omega) (Nat.le_add_right _ _) hs (World.grownBy.refl w _)
  · have h1' : 1 < n := by omega
    by_cases h3 : n ≤ 200
    · go_enter Tryz.func17, Tryz.ntmps17
      go_wp2_with fail
      refine (next_any g p w hs (by omega)).mono ?_
      rintro e w1 ⟨x, q, rfl, x0, x1, hq, hs1, hg1⟩
      have HM := Lib.hid (show 0 ≤ x % n ∧ x % n < n from ⟨Int.emod_nonneg _ (by omega), Int.emod_lt_of_pos _ (by omega)⟩)
      go_wp2
      go_ret
      exact Drew.mk (q := q) HM.out.1 (by have := HM.out.2; omega) (by omega) hs1 hg1
    · have h3' : 200 < n := by omega
      go_enter Tryz.func17, Tryz.ntmps17
      go_wp2_with fail
      refine (next_any g p w hs (by omega)).mono ?_
      rintro e w1 ⟨x, q, rfl, x0, x1, hq, hs1, hg1⟩
      go_wp2_with fail
      refine (next_any g q w1 hs1 (by omega)).mono ?_
      rintro e w2 ⟨y, r, rfl, y0, y1, hr, hs2, hg2⟩
      have HM := Lib.hid (show 0 ≤ (x * 256 + y) % n ∧ (x * 256 + y) % n < n from ⟨Int.emod_nonneg _ (by omega), Int.emod_lt_of_pos _ (by omega)⟩)
      go_wp2
      go_ret
      exact Drew.mk (q := r) HM.out.1 (by have := HM.out.2; omega) (by omega) hs2 (hg1.trans hg2)
/-- what 'one' leaves -/
def DrewB (w : World) (g p : Nat) (e : Ending) (w' : World) : Prop := ∃ (b : Bool) (q : Nat), e = .returned (.bool b) ∧ q ≤ p + 2 ∧ Src w' g q ∧ w.grownBy w' (some g)
set_option maxHeartbeats 1000000 in
theorem one_any (g p : Nat) (n : Int) (w : World) (hs : Src w g p) (hp : p ≤ 1125899906842623) (h1 : 1 ≤ n) (h2 : n ≤ 60000) :
    Calls Tryz.prog 19 #[.pointer (some ⟨g, 0, none⟩), .int .i64 n] w (DrewB w g p) := by
  go_enter Tryz.func19, Tryz.ntmps19
  go_wp2_with fail
  refine (pick_any g p n w hs hp h1 h2).mono ?_
  rintro e w1 ⟨x, q, rfl, x0, x1, hq, hs1, hg1⟩
  go_wp2
  go_ret
  exact ⟨_, q, rfl, hq, hs1, hg1⟩
/-- what 'among' leaves: one of the numbers -/
def DrewA (w : World) (g p : Nat) (zs : List Int) (e : Ending) (w' : World) : Prop := ∃ (x : Int) (q : Nat), e = .returned (.int .i64 x) ∧ x ∈ zs ∧ q ≤ p + 2 ∧ Src w' g q ∧ w.grownBy w' (some g)
set_option maxHeartbeats 1000000 in
theorem among_any (g p : Nat) (A : Option Addr) (n c : Nat) (zs : List Int) (w : World) (hs : Src w g p) (hp : p ≤ 1125899906842623) (ha : RI w A n zs) (hA : ∀ a, A = some a → a.block ≠ g) (h1 : 1 ≤ n) (h2 : n ≤ 60000) :
    Calls Tryz.prog 18 #[.pointer (some ⟨g, 0, none⟩), .slice A n c] w (DrewA w g p zs) := by
  have hla := Lib.hid ha.len
  go_enter Tryz.func18, Tryz.ntmps18
  go_wp2_with fail
  refine (pick_any g p n w hs hp (by omega) (by omega)).mono ?_
  rintro e w1 ⟨x, q, rfl, x0, x1, hq, hs1, hg1⟩
  obtain ⟨y, rfl⟩ := Int.eq_ofNat_of_zero_le x0
  obtain ⟨ad, rfl, hc, hi⟩ := ha.get (k := y) (by omega)
  have hc1 := hg1.cell hc (fun e => by rw [add_block] at e; injection e with e; exact hA ad rfl e)
  have HM := Lib.hid (nth_in (zs := zs) (k := y) (by rw [hla.out]; omega))
  generalize nth zs y = z at *
  clear hc hi
  go_wp2
  go_ret
  exact ⟨z, q, rfl, HM.out, hq, hs1, hg1⟩
set_option maxHeartbeats 1000000 in
theorem l00From_any (A : Option Addr) (n c : Nat) (bs : List Int) (w : World) (ha : RS EByte w A n bs) (hn : n ≤ 9223372036854775807) :
    Calls Tryz.prog 16 #[.slice A n c] w fun e w' => e = .returned (.pointer (some ⟨w.heap.size, 0, none⟩)) ∧ Src w' w.heap.size 0 ∧ Below w.heap.size w w' := by
  go_enter Tryz.func16, Tryz.ntmps16
  go_wp2
  go_ret
  refine ⟨rfl, ⟨A, n, c, bs, 0, Blk.new _ _ _, EBytes.keep ha (below_alloc _ _), fun h0 a hA => ?_, hn, by omega, by omega⟩, below_alloc _ _⟩
  subst hA
  obtain ⟨ad, u, x, e, -, hc, -⟩ := ha.get h0
  cases e
  have := block_lt hc
  rwa [add_block] at this
end Go.Proofs.YtnmcmologlgccaaGreat
/- The numbers drawn for symbols. No condition beyond those stated. -/
namespace Go.Proofs.YtnmcmologlgccaaGreat
open Go.RowKit

/-- a source's state, behind more calls: what was before is as it was -/
structure SrcB (w w' : World) (g p : Nat) : Prop where
  src : Src w' g p
  gl : g < w.heap.size
  grown : w.grownBy w' (some g)
theorem SrcB.next {w w' w'' : World} {g p q : Nat} (h : SrcB w w' g p) (hs : Src w'' g q) (hg : w'.grownBy w'' (some g)) : SrcB w w'' g q := ⟨hs, h.gl, h.grown.trans hg⟩
theorem SrcB.step {w w' w'' : World} {g p : Nat} (h : SrcB w w' g p) (hb : Below w'.heap.size w' w'') : SrcB w w'' g p := ⟨h.src.below hb, h.gl, h.grown.trans (grownBy_of_below hb (some g))⟩
theorem lit5 (w : World) (t : TypeId) (a b c d e : Int) (h : ∀ x ∈ [a, b, c, d, e], I64 x) : RI (w.alloc (.cells #[.int .i64 a, .int .i64 b, .int .i64 c, .int .i64 d, .int .i64 e] t)) (some ⟨w.heap.size, 0, none⟩) 5 [a, b, c, d, e] :=
  RS.lit (E := EInt) (Value.int .i64) w t [a, b, c, d, e] fun x hx => ⟨rfl, h x hx⟩
theorem lit7 (w : World) (t : TypeId) (a b c d e f g : Int) (h : ∀ x ∈ [a, b, c, d, e, f, g], I64 x) : RI (w.alloc (.cells #[.int .i64 a, .int .i64 b, .int .i64 c, .int .i64 d, .int .i64 e, .int .i64 f, .int .i64 g] t)) (some ⟨w.heap.size, 0, none⟩) 7 [a, b, c, d, e, f, g] :=
  RS.lit (E := EInt) (Value.int .i64) w t [a, b, c, d, e, f, g] fun x hx => ⟨rfl, h x hx⟩
/-- products of so many small primes and signs -/
def prodN : Nat → Int → Prop
  | 0, x => x = 1
  | k + 1, x => ∃ y f, prodN k y ∧ f ∈ ([2, 3, 5, 7, -1] : List Int) ∧ x = y * f
theorem prodN_bd : ∀ (k : Nat) (x : Int), prodN k x → k ≤ 6 → -(7 ^ k : Int) ≤ x ∧ x ≤ 7 ^ k
  | 0, x, h, _ => by
    have : x = 1 := h
    subst this
    simp
  | k + 1, x, ⟨y, f, hy, hf, e⟩, hk => by
    have := prodN_bd k y hy (by omega)
    have h7 : (0 : Int) ≤ 7 ^ k := Int.pow_nonneg (by omega)
    rw [Int.pow_succ]
    generalize (7 : Int) ^ k = P at *
    subst e
    simp at hf
    rcases hf with rfl | rfl | rfl | rfl | rfl <;> omega
theorem prodN_small {k : Nat} {x : Int} (h : prodN k x) (hk : k ≤ 5) : -16807 ≤ x ∧ x ≤ 16807 := by
  have h1 := prodN_bd k x h (by omega)
  have h2 : (7 : Int) ^ k ≤ 7 ^ 5 := by
    have : (7 : Nat) ^ k ≤ 7 ^ 5 := Nat.pow_le_pow_right (by omega) hk
    exact_mod_cast this
  have h3 : (7 : Int) ^ 5 = 16807 := by decide
  omega
/-- a number that is drawn -/
def DN (x : Int) : Prop := x ∈ ([0, 1, -1, 1000000, -1000000, 1000001, 524288] : List Int) ∨ (∃ k, k ≤ 5 ∧ prodN k x) ∨ (-60 ≤ x ∧ x ≤ 59)
theorem DN.bd {x : Int} (h : DN x) : -1000001 ≤ x ∧ x ≤ 1000001 := by
  rcases h with h | ⟨k, hk, h⟩ | h
  · simp at h; omega
  · have := prodN_small h hk; omega
  · omega
/-- what a call leaves that draws one -/
def DrewN (w : World) (g p : Nat) (e : Ending) (w' : World) : Prop := ∃ (x : Int) (q : Nat), e = .returned (.int .i64 x) ∧ DN x ∧ q ≤ p + 40 ∧ Src w' g q ∧ w.grownBy w' (some g)
end Go.Proofs.YtnmcmologlgccaaGreat
