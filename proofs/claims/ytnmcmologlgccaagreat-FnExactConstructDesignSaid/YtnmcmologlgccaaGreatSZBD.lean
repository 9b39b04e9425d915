/- Complements of bases are balanced and have no failing condition, checked. No program in sight. -/
import Derived.Test.YtnmcmologlgccaaGreatSZBC
set_option linter.unusedVariables false
set_option linter.unusedSimpArgs false
namespace Go.Proofs.YtnmcmologlgccaaGreat
def cplCk (v k l l' : Nat) : Bool := decide (bnC v k l = 0) && inRng v ((v : Int) - k) (cplL v k l) && decide (cplL v k l = l')
def cplT (v k' l' : Nat) (L : List (List Int)) : Bool := (List.range 1001).all fun l => !(cplCk v (v - k') l l') || (balM v (isortR (cmlB v L)) (v - k') l && (fails v (v - k' : Nat) l).isEmpty)
def comT (v k' : Nat) : Bool := decide (v < 3) || decide (k' < 2) || decide (v ≤ k') || decide (128 < chP v k') || (List.range 1001).all fun l => !(cplCk v (v - k') l (chP (v - 2) (k' - 2))) || (decide (l = chP (v - 2) (v - k' - 2)) && decide (chP v (v - k') ≤ 128))
set_option maxRecDepth 100000 in
theorem comT_all : ((List.range 33).all fun v => (List.range 33).all fun k => comT v k) = true := by decide +kernel
def comF (v k : Nat) : Bool := decide (v < 3) || decide (k < 2) || decide (v ≤ k) || decide (128 < chP v k) || (fails v k (chP (v - 2) (k - 2) : Nat)).isEmpty
set_option maxRecDepth 100000 in
theorem comF_all : ((List.range 33).all fun v => (List.range 33).all fun k => comF v k) = true := by decide +kernel
set_option maxRecDepth 100000 in
theorem othF_all : (([7, 9, 13, 15, 19, 21, 25, 27].all fun v => (fails (v : Nat) (3 : Nat) (1 : Nat)).isEmpty) && ([2, 3, 4, 5].all fun k => (fails (k * k : Nat) k (1 : Nat)).isEmpty) && ([2, 3, 4, 5].all fun q => (fails (q * q + q + 1 : Nat) (q + 1 : Nat) (1 : Nat)).isEmpty) &&
  ([7, 11, 19, 23, 31].all fun v => (fails (v : Nat) ((v - 1) / 2 : Nat) ((v - 3) / 4 : Nat)).isEmpty) && (fails (15 : Nat) (7 : Nat) (3 : Nat)).isEmpty && (fails (27 : Nat) (13 : Nat) (6 : Nat)).isEmpty) = true := by decide +kernel
end Go.Proofs.YtnmcmologlgccaaGreat
namespace Go.Proofs.YtnmcmologlgccaaGreat
set_option maxRecDepth 100000 in
theorem cpl_tri : ([7, 9, 13, 15, 19, 21, 25, 27].all fun v => cplT v 3 1 (isortR (triLC v))) = true := by decide +kernel
set_option maxRecDepth 100000 in
theorem cpl_aff : ([2, 3, 4, 5].all fun k => cplT (k * k) k 1 (isortR (affQ k))) = true := by decide +kernel
end Go.Proofs.YtnmcmologlgccaaGreat
namespace Go.Proofs.YtnmcmologlgccaaGreat
set_option maxRecDepth 100000 in
theorem cpl_prj : ([2, 3, 4, 5].all fun q => cplT (q * q + q + 1) (q + 1) 1 (isortR (prjQ q))) = true := by decide +kernel
set_option maxRecDepth 100000 in
theorem cpl_dif : ([7, 11, 19, 23, 31].all fun v => cplT v ((v - 1) / 2) ((v - 3) / 4) (isortR (devC v (sqK v v) v))) = true := by decide +kernel
set_option maxRecDepth 100000 in
theorem cpl_had : (cplT 15 7 3 (isortR (hdL H16)) && cplT 27 13 6 (isortR (hdL H28))) = true := by decide +kernel
end Go.Proofs.YtnmcmologlgccaaGreat
namespace Go.Proofs.YtnmcmologlgccaaGreat
open Go.RowKit
theorem cplT_at {v k' l' l : Nat} {L : List (List Int)} (h : cplT v k' l' L = true) (hl : l ≤ 1000) (hc : cplCk v (v - k') l l' = true) : Bal v (srtR (cmlB v L)) (v - k') l ∧ fails v (v - k' : Nat) l = [] := by
  have a := List.all_eq_true.1 h l (List.mem_range.2 (by omega))
  rw [hc] at a
  simp only [Bool.not_true, Bool.false_or, Bool.and_eq_true, List.isEmpty_iff] at a
  rw [srtR_isort]
  exact ⟨balM_bal a.1, a.2⟩
theorem comT_at {v k' l : Nat} (h3 : 3 ≤ v) (hv : v ≤ 32) (h2 : 2 ≤ k') (hk : k' < v) (h : chP v k' ≤ 128) (hl : l ≤ 1000) (hc : cplCk v (v - k') l (chP (v - 2) (k' - 2)) = true) : l = chP (v - 2) (v - k' - 2) ∧ chP v (v - k') ≤ 128 := by
  have a := List.all_eq_true.1 (List.all_eq_true.1 comT_all v (List.mem_range.2 (by omega))) k' (List.mem_range.2 (by omega))
  unfold comT at a
  have e1 : decide (v < 3) = false := by simp; omega
  have e2 : decide (k' < 2) = false := by simp; omega
  have e3 : decide (v ≤ k') = false := by simp; omega
  have e4 : decide (128 < chP v k') = false := by simp; omega
  rw [e1, e2, e3, e4, Bool.false_or, Bool.false_or, Bool.false_or, Bool.false_or] at a
  have b := List.all_eq_true.1 a l (List.mem_range.2 (by omega))
  rw [hc] at b
  simpa using b
theorem comF_at {v k : Nat} (h3 : 3 ≤ v) (hv : v ≤ 32) (h2 : 2 ≤ k) (hk : k < v) (h : chP v k ≤ 128) : fails v k (chP (v - 2) (k - 2) : Nat) = [] := by
  have a := List.all_eq_true.1 (List.all_eq_true.1 comF_all v (List.mem_range.2 (by omega))) k (List.mem_range.2 (by omega))
  unfold comF at a
  have e1 : decide (v < 3) = false := by simp; omega
  have e2 : decide (k < 2) = false := by simp; omega
  have e3 : decide (v ≤ k) = false := by simp; omega
  have e4 : decide (128 < chP v k) = false := by simp; omega
  rw [e1, e2, e3, e4, Bool.false_or, Bool.false_or, Bool.false_or, Bool.false_or, List.isEmpty_iff] at a
  exact a
theorem Base.fails {v k l : Nat} {bs : List (List Int)} (h : Base v k l bs) : fails v k l = [] := by
  have ha := othF_all
  simp only [Bool.and_eq_true, List.all_eq_true, List.isEmpty_iff] at ha
  obtain ⟨⟨⟨⟨⟨a1, a2⟩, a3⟩, a4⟩, a5⟩, a6⟩ := ha
  cases h with
  | com h3 hv h2 hk h hL => exact comF_at h3 hv h2 hk h
  | tri h => exact a1 v h
  | aff h => exact a2 k h
  | prj h => exact a3 _ h
  | dif h => exact a4 v h
  | h15 => exact a5
  | h27 => exact a6
theorem cpl_ok {v k l : Nat} {bs : List (List Int)} (hr : InR v k l) (hn : fstD v k l = none) (h : cplO v k l = some bs) : Bal v bs k l ∧ fails v k l = [] := by
  have hr0 := hr
  obtain ⟨v3, v32, k2, kv, l1, l1000⟩ := hr
  unfold cplO at h
  split at h
  · rename_i hc
    cases hf : fstD v (v - k) (cplL v k l).toNat with
    | none => rw [hf] at h; cases h
    | some x =>
      obtain ⟨c, L⟩ := x
      rw [hf] at h
      obtain rfl : srtR (cmlB v L) = bs := by injection h
      have hkv : (v : Int) - k = ((v - k : Nat) : Int) := by omega
      have hpos : 1 ≤ cplL v k l := by have := inRng_true hc.2; omega
      obtain ⟨m, hm⟩ : ∃ m : Nat, cplL v k l = (m : Int) := ⟨(cplL v k l).toNat, by omega⟩
      have hc2 := hc.2
      rw [hm, hkv] at hc2
      rw [hm, Int.toNat_natCast] at hf
      have hb := fst_base (inRng_of hc2 v32) hf
      have hck : cplCk v k l m = true := by
        unfold cplCk
        rw [hm, hkv, hc2, hc.1]
        simp
      have hkk : k = v - (v - k) := by omega
      have hk1 : v - k < v := by omega
      have hk2 : 2 ≤ v - k := by have := inRng_true hc2; omega
      generalize v - k = k' at *
      subst hkk
      clear h hf hr0
      cases hb with
      | com h3 hv h2 hk h hL =>
        exfalso
        obtain ⟨e1, e2⟩ := comT_at h3 hv h2 hk h l1000 hck
        obtain ⟨L', e3, _, _⟩ := com_at (v := v) (k := v - k') v3 v32 k2 (by omega) e2
        have hd : dirO 1 v (v - k') l = some (srtR L') := by unfold dirO; rw [if_pos rfl, if_pos ⟨e1, e2⟩, e3]; rfl
        unfold fstD fstO at hn
        rw [hd] at hn
        cases hn
      | tri h => exact cplT_at (List.all_eq_true.1 cpl_tri v h) l1000 hck
      | aff h => exact cplT_at (List.all_eq_true.1 cpl_aff _ h) l1000 hck
      | prj h => exact cplT_at (List.all_eq_true.1 cpl_prj _ h) l1000 hck
      | dif h => exact cplT_at (List.all_eq_true.1 cpl_dif v h) l1000 hck
      | h15 => have := cpl_had; simp only [Bool.and_eq_true] at this; exact cplT_at this.1 l1000 hck
      | h27 => have := cpl_had; simp only [Bool.and_eq_true] at this; exact cplT_at this.2 l1000 hck
  · cases h
theorem smp_ok {v k l c : Nat} {bs : List (List Int)} (hr : InR v k l) (h : smpD v k l = some (c, bs)) : Bal v bs k l ∧ fails v k l = [] ∧ 1 ≤ c ∧ c ≤ 7 := by
  unfold smpD at h
  cases hf : fstD v k l with
  | some x =>
    rw [hf] at h
    injection h with h
    subst h
    obtain ⟨h1, h2, _, _⟩ := fst_inv hf
    have hb := fst_base hr hf
    exact ⟨hb.bal, hb.fails, h1, by omega⟩
  | none =>
    rw [hf] at h
    cases hc : cplO v k l with
    | none => rw [hc] at h; cases h
    | some L =>
      rw [hc] at h
      simp only [Option.map_some, Option.some.injEq, Prod.mk.injEq] at h
      obtain ⟨rfl, rfl⟩ := h
      obtain ⟨h1, h2⟩ := cpl_ok hr hf hc
      exact ⟨h1, h2, by omega, by omega⟩
theorem simpOk : SimpOk := ⟨baseOk, fun _ _ _ _ _ hr h => (smp_ok hr h).1⟩
/-! copies -/
theorem Bal.of_pairs {v k : Nat} {lam : Int} {bs : List (List Int)} (hD : Design v bs) (v2 : 2 ≤ v) (b1 : 0 < bs.length) (len : ∀ i, i < bs.length → (row bs i).length = k) (k2 : 2 ≤ k) (h : ∀ a b : Nat, a < b → b < v → ((pairN bs (a : Int) (b : Int) : Nat) : Int) = lam) : Bal v bs k lam :=
  ⟨hD, v2, b1, len, k2, fun j hj => by
    rw [nth_get hj]
    have hm := List.getElem_mem hj
    generalize (prP v bs v)[j] = z at hm ⊢
    unfold prP at hm
    obtain ⟨a, ha, hz⟩ := List.mem_flatMap.1 hm
    unfold prB at hz
    obtain ⟨d, hd, hz⟩ := List.mem_map.1 hz
    have h1 := List.mem_range.1 ha
    have h2 := List.mem_range.1 hd
    rw [← hz]
    exact h a (a + 1 + d) (by omega) (by omega)⟩
theorem Bal.pairs {v k : Nat} {lam : Int} {bs : List (List Int)} (h : Bal v bs k lam) (a b : Nat) (hab : a < b) (hb : b < v) : ((pairN bs (a : Int) (b : Int) : Nat) : Int) = lam := by
  have hm : ((pairN bs (a : Int) (b : Int) : Nat) : Int) ∈ prP v bs v := by
    unfold prP
    refine List.mem_flatMap.2 ⟨a, List.mem_range.2 (by omega), ?_⟩
    unfold prB
    refine List.mem_map.2 ⟨b - a - 1, List.mem_range.2 (by omega), ?_⟩
    rw [show a + 1 + (b - a - 1) = b by omega]
  obtain ⟨j, hj, e⟩ := mem_nthB hm
  rw [← e]
  exact h.lam j hj
theorem repB_pairs (bs : List (List Int)) (a b : Int) (m : Nat) : pairN (repB bs m) a b = m * pairN bs a b := by
  induction m with
  | zero => simp [repB, pairN]
  | succ m ih =>
    unfold pairN at ih ⊢
    rw [repB, List.countP_append, ih, Nat.succ_mul]
theorem Bal.rep {v k m : Nat} {lam : Int} {bs : List (List Int)} (h : Bal v bs k lam) (hm : 1 ≤ m) (hl : m * bs.length ≤ 128) : Bal v (srtR (repB bs m)) k (m * lam) := by
  have hp := srtR_perm (repB bs m)
  have hlen : (srtR (repB bs m)).length = m * bs.length := by rw [hp.length_eq, repB_len]
  have hrow : ∀ i, i < (srtR (repB bs m)).length → ∃ q, q < bs.length ∧ row (srtR (repB bs m)) i = row bs q := fun i hi => by
    rw [row_get hi]
    have h1 := repB_mem (hp.mem_iff.1 (List.getElem_mem hi))
    obtain ⟨q, hq, e⟩ := mem_rowH h1
    exact ⟨q, hq, e.symm⟩
  refine Bal.of_pairs ⟨h.d.v1, h.d.v2, by omega, fun i hi => ?_, fun i hi => ?_⟩ h.v2 ?_ (fun i hi => ?_) h.k2 fun a b hab hb => ?_
  · obtain ⟨q, hq, e⟩ := hrow i hi
    rw [e]
    exact h.d.blk q hq
  · rw [row_get (by omega), row_get hi]
    exact List.pairwise_iff_getElem.1 (srtR_sorted (repB bs m)) i (i + 1) (by omega) hi (by omega)
  · rw [hlen]
    exact Nat.mul_pos hm h.b1
  · obtain ⟨q, hq, e⟩ := hrow i hi
    rw [e]
    exact h.len q hq
  · have h1 : pairN (srtR (repB bs m)) (a : Int) (b : Int) = pairN (repB bs m) (a : Int) (b : Int) := by unfold pairN; exact hp.countP_eq _
    rw [h1, repB_pairs, Int.natCast_mul, h.pairs a b hab hb]
theorem Bal.nums {v k l : Nat} {bs : List (List Int)} (h : Bal v bs k l) (hr : InR v k l) :
    inRng v k l = true ∧ okB v k l = true ∧ okR v k l = true ∧ nB v k l = bs.length ∧ nR v k l = ((bs.flatten.count 0 : Nat) : Int) := by
  obtain ⟨v3, v32, k2, kv, l1, l1000⟩ := hr
  obtain ⟨L, r, hL, hrr, e1, e2, hle⟩ := h.eqs
  obtain rfl : l = L := by omega
  obtain ⟨v', rfl⟩ : ∃ v', v = v' + 1 := ⟨v - 1, by omega⟩
  obtain ⟨k', rfl⟩ : ∃ k', k = k' + 1 := ⟨k - 1, by omega⟩
  rw [Nat.succ_mul, Nat.succ_mul] at e1
  have f1 : r * k' = l * v' := by rw [Nat.mul_comm r, Nat.mul_comm l]; omega
  have f2 : bs.length * (k' + 1) * k' = l * (v' + 1) * v' := by
    rw [← e2, Nat.mul_assoc, f1, ← Nat.mul_assoc, Nat.mul_comm (v' + 1) l]
  have g1 : (((v' + 1 : Nat) : Int) - 1) = (v' : Int) := by omega
  have g2 : (((k' + 1 : Nat) : Int) - 1) = (k' : Int) := by omega
  have hB : (l : Int) * ((v' + 1 : Nat) : Int) * (((v' + 1 : Nat) : Int) - 1) = (bs.length : Int) * (((k' + 1 : Nat) : Int) * (((k' + 1 : Nat) : Int) - 1)) := by
    rw [g1, g2, ← Int.mul_assoc]
    exact_mod_cast f2.symm
  have hR : (l : Int) * (((v' + 1 : Nat) : Int) - 1) = (r : Int) * (((k' + 1 : Nat) : Int) - 1) := by
    rw [g1, g2]
    exact_mod_cast f1.symm
  have hne : ((k' + 1 : Nat) : Int) * (((k' + 1 : Nat) : Int) - 1) ≠ 0 := Int.mul_ne_zero (by omega) (by omega)
  refine ⟨?_, ?_, ?_, ?_, ?_⟩
  · unfold inRng
    rw [inB_mk ⟨by omega, by omega⟩, inB_mk ⟨by omega, by omega⟩, inB_mk ⟨by omega, by omega⟩]
    rfl
  · unfold okB
    rw [hB, Int.mul_emod_left]
    rfl
  · unfold okR
    rw [hR, Int.mul_emod_left]
    rfl
  · unfold nB
    rw [hB]
    exact Int.mul_ediv_cancel _ hne
  · unfold nR
    rw [hR, ← hrr]
    exact Int.mul_ediv_cancel _ (by omega)
theorem mul_inv {v k l : Nat} {bs : List (List Int)} : ∀ (f m : Nat), mulO v k l f m = some bs → ∃ m' c L, m ≤ m' ∧ m' < m + f ∧ l % m' = 0 ∧ smpD v k (l / m') = some (c, L) ∧ m' * L.length ≤ 128 ∧ bs = srtR (repB L m') := by
  intro f
  induction f with
  | zero => intro m h; cases h
  | succ f ih =>
    intro m h
    have next : mulO v k l f (m + 1) = some bs → ∃ m' c L, m ≤ m' ∧ m' < m + (f + 1) ∧ l % m' = 0 ∧ smpD v k (l / m') = some (c, L) ∧ m' * L.length ≤ 128 ∧ bs = srtR (repB L m') := fun h => by
      obtain ⟨m', c, L, h1, h2, h3⟩ := ih (m + 1) h
      exact ⟨m', c, L, by omega, by omega, h3⟩
    rw [mulO] at h
    split at h
    · rename_i hm
      cases hs : smpD v k (l / m) with
      | none => rw [hs] at h; exact next h
      | some x =>
        obtain ⟨c, L⟩ := x
        rw [hs] at h
        simp only at h
        split at h
        · rename_i hl
          injection h with h
          exact ⟨m, c, L, Nat.le_refl _, by omega, hm, hs, hl, h.symm⟩
        · exact next h
    · exact next h
theorem con_ok {v k l c : Nat} {bs : List (List Int)} (hr : InR v k l) (h : conD v k l = some (c, bs)) : Bal v bs k l ∧ fails v k l = [] ∧ 1 ≤ c ∧ c ≤ 8 := by
  unfold conD at h
  cases hs : smpD v k l with
  | some x =>
    rw [hs] at h
    injection h with h
    subst h
    obtain ⟨h1, h2, h3, h4⟩ := smp_ok hr hs
    exact ⟨h1, h2, h3, by omega⟩
  | none =>
    rw [hs] at h
    cases hm : mulO v k l (l - 1) 2 with
    | none => rw [hm] at h; cases h
    | some L =>
      rw [hm] at h
      simp only [Option.map_some, Option.some.injEq, Prod.mk.injEq] at h
      obtain ⟨rfl, rfl⟩ := h
      obtain ⟨m, c, L0, h1, h2, h3, h4, h5, rfl⟩ := mul_inv _ _ hm
      have l1 := hr.l1
      have hrp := hr.part (m := m) (by omega) (by omega)
      obtain ⟨b1, b2, _, _⟩ := smp_ok hrp h4
      have hml : m * (l / m) = l := Nat.mul_div_cancel' (Nat.dvd_of_mod_eq_zero h3)
      have hB := b1.rep (m := m) (by omega) h5
      rw [show (m : Int) * ((l / m : Nat) : Int) = (l : Int) by rw [← Int.natCast_mul, hml]] at hB
      refine ⟨hB, ?_, by omega, by omega⟩
      obtain ⟨_, n1, n2, n3, _⟩ := b1.nums hrp
      obtain ⟨_, p1, p2, p3, _⟩ := hB.nums hr
      have hge : (v : Int) ≤ (L0.length : Int) := by
        unfold Go.Proofs.YtnmcmologlgccaaGreat.fails at b2
        rw [n1, n2, Bool.and_true, if_pos rfl] at b2
        split at b2
        · cases b2
        · rw [n3] at *
          omega
      have hlen : (srtR (repB L0 m)).length = m * L0.length := by rw [(srtR_perm (repB L0 m)).length_eq, repB_len]
      have hgt : (v : Int) < nB v k l := by
        rw [p3, hlen]
        have : 2 * L0.length ≤ m * L0.length := Nat.mul_le_mul h1 (Nat.le_refl _)
        have := hr.v3
        omega
      unfold Go.Proofs.YtnmcmologlgccaaGreat.fails
      rw [p1, p2, Bool.and_true, if_pos rfl, if_neg (by omega), if_neg (by omega)]
theorem OI.lit0 (w : World) (e : TypeId) : OI (w.alloc (.cells #[] e)) w.heap.size e (some ⟨w.heap.size, 0, none⟩) 0 0 [] :=
  OI.lit w w.heap.size e [] (Nat.le_refl _) (by simp) (fun _ h => by cases h)
def subK (n k : Nat) : Nat → Nat → List Int → Nat → List Int
  | 0, _, out, _ => out
  | f + 1, x, out, r => if out.length < k ∧ x < n then (if r < chP (n - 1 - x) (k - 1 - out.length) then subK n k f (x + 1) (out ++ [(x : Int)]) r else subK n k f (x + 1) out (r - chP (n - 1 - x) (k - 1 - out.length))) else out
def subP (n k r : Nat) : List Int := subK n k (n + 1) 0 [] r
set_option maxRecDepth 100000 in
set_option maxHeartbeats 4000000 in
theorem l01Subset_any (n k r : Nat) (w : World) (hn : n ≤ 32) (hk : k ≤ n) (hr : r ≤ 1000000000) :
    Calls Tryz.prog 73 #[.int .i64 n, .int .i64 k, .int .i64 r] w (RetI w 2 (subP n k r)) := by
  have hb0 := below_alloc w (.cells #[] 2)
  have ho0 := OI.lit0 w 2
  have HS0 : Hid (subP n k r = subK n k (n + 1 - 0) 0 [] r) := Lib.hid rfl
  generalize subP n k r = R at *
  go_enter Tryz.func73, Tryz.ntmps73
  go_wp2
  go_loopw [2, 7, 8] (fun rv lv xv wr => ∃ (x r' m : Nat) (A : Option Addr) (c : Nat) (out : List Int), x ≤ n ∧ m ≤ x ∧ m ≤ k ∧ r' ≤ 1000000000 ∧ rv = .int .i64 r' ∧ lv = .slice A m c ∧ xv = .int .i64 x ∧ OI wr w.heap.size 2 A m c out ∧ Hid (R = subK n k (n + 1 - x) x out r') ∧ Below w.heap.size w wr) (fun _ _ xv _ => n + 1 - (intOf xv).toNat)
  case atStart => exact ⟨0, r, 0, _, 0, [], Nat.zero_le _, Nat.le_refl _, Nat.zero_le _, hr, rfl, rfl, rfl, ho0, HS0, hb0⟩
  case round =>
    clear ho0 hb0 HS0
    obtain ⟨x, r', m, A, c, out, hx, hmx, hmk, hr', rfl, rfl, rfl, ho, HS, hb⟩ := hrel
    have hlen := ho.len
    have hbs := hb.size
    obtain ⟨f, hf⟩ : ∃ f, n + 1 - x = f + 1 := ⟨n - x, by omega⟩
    by_cases hlm : m < k
    · by_cases hlx : x < n
      · have hf2 : n + 1 - (x + 1) = f := by omega
        have e1 : (n : Int) - 1 - x = ((n - 1 - x : Nat) : Int) := by omega
        have e2 : (k : Int) - 1 - m = ((k - 1 - m : Nat) : Int) := by omega
        have hch := specChoose_any (n - 1 - x) (k - 1 - m) wr (by omega)
        have hcl := chP_le (n := n - 1 - x) (k := k - 1 - m) (by omega)
        have HS1 : Hid (R = if r' < chP (n - 1 - x) (k - 1 - m) then subK n k f (x + 1) (out ++ [(x : Int)]) r' else subK n k f (x + 1) out (r' - chP (n - 1 - x) (k - 1 - m))) := Lib.hid (by
          rw [HS.out, hf, subK, hlen, if_pos ⟨hlm, hlx⟩])
        clear HS hf
        generalize chP (n - 1 - x) (k - 1 - m) = ch at *
        generalize hn1 : n - 1 - x = n1 at *
        generalize hk1 : k - 1 - m = k1 at *
        clear hn1 hk1
        by_cases hrc : r' < ch
        · have HS2 : Hid (R = subK n k (n + 1 - (x + 1)) (x + 1) (out ++ [(x : Int)]) r') := Lib.hid (by rw [HS1.out, if_pos hrc, hf2])
          clear HS1 hf2
          go_wp2_with fail
          refine hch.mono ?_
          rintro e w' ⟨rfl, rfl⟩
          go_wp2_with (at_builtin; refine app_int _ rfl _ _ rfl w.heap.size A m c _ rfl ho (x : Int) wr.heap.size rfl rfl ⟨by omega, by omega⟩ (by omega) (by omega) ?_; intro A5 c5 w5 ho5 hg5 hf5; have hb5 := below_own hb hg5 (by omega) (fun b hb => (ho.os.lt hb).1))
          go_round
          case rel => exact ⟨x + 1, r', m + 1, A5, c5, _, by omega, by omega, by omega, hr', rfl, rfl, by go_num, ho5, HS2, hb5⟩
          case measure => simp only [intOf]; omega
        · have HS2 : Hid (R = subK n k (n + 1 - (x + 1)) (x + 1) out (r' - ch)) := Lib.hid (by rw [HS1.out, if_neg hrc, hf2])
          have e3 : (r' : Int) - ch = ((r' - ch : Nat) : Int) := by omega
          clear HS1 hf2
          go_wp2_with fail
          refine hch.mono ?_
          rintro e w' ⟨rfl, rfl⟩
          go_wp2
          go_round
          case rel => exact ⟨x + 1, r' - ch, m, A, c, out, by omega, by omega, hmk, by omega, by go_num, rfl, by go_num, ho, HS2, hb⟩
          case measure => simp only [intOf]; omega
      · have HE := Lib.hid (show R = out by rw [HS.out, hf, subK, if_neg (fun h => hlx h.2)])
        clear HS hf
        go_wp2
        go_ret
        exact ⟨A, m, c, rfl, by rw [HE.out]; exact ho, hb⟩
    · have HE := Lib.hid (show R = out by rw [HS.out, hf, subK, if_neg (fun h => hlm (by rw [← hlen]; exact h.1))])
      clear HS hf
      go_wp2
      go_ret
      exact ⟨A, m, c, rfl, by rw [HE.out]; exact ho, hb⟩
theorem iota_takeL {n k : Nat} (h : k < n) : (iotaP n).take k ++ [(k : Int)] = (iotaP n).take (k + 1) := by
  have hl : k < (iotaP n).length := by rw [iotaP_len]; exact h
  rw [List.take_add_one, List.getElem?_eq_getElem hl, ← nth_get hl, iotaP_nth h]
  rfl
set_option maxHeartbeats 1000000 in
theorem l10All_any (n : Nat) (w : World) (hn : n ≤ 1000) : Calls Tryz.prog 85 #[.int .i64 n] w (RetI w 2 (iotaP n)) := by
  have hb0 := below_alloc w (.cells #[] 2)
  have ho0 := OI.lit0 w 2
  go_enter Tryz.func85, Tryz.ntmps85
  go_wp2
  go_loopw [3, 4] (fun lv xv wr => ∃ (x : Nat) (A : Option Addr) (c : Nat), x ≤ n ∧ lv = .slice A x c ∧ xv = .int .i64 x ∧ OI wr w.heap.size 2 A x c ((iotaP n).take x) ∧ Below w.heap.size w wr) (fun _ xv _ => n - (intOf xv).toNat)
  case atStart => exact ⟨0, _, 0, Nat.zero_le _, rfl, rfl, by simpa using ho0, hb0⟩
  case round =>
    clear ho0 hb0
    obtain ⟨x, A, c, hx, rfl, rfl, ho, hb⟩ := hrel
    have hbs := hb.size
    by_cases hlx : x < n
    · have HST := Lib.hid (iota_takeL hlx)
      go_wp2_with (at_builtin; refine app_int _ rfl _ _ rfl w.heap.size A x c _ rfl ho (x : Int) wr.heap.size rfl rfl ⟨by omega, by omega⟩ (by omega) (by omega) ?_; intro A5 c5 w5 ho5 hg5 hf5; have hb5 := below_own hb hg5 (by omega) (fun b hb => (ho.os.lt hb).1); rw [HST.out] at ho5)
      go_round
      case rel => exact ⟨x + 1, A5, c5, by omega, rfl, by go_num, ho5, hb5⟩
      case measure => simp only [intOf]; omega
    · obtain rfl : x = n := by omega
      rw [List.take_of_length_le (by rw [iotaP_len]; exact Nat.le_refl _)] at ho
      go_wp2
      go_ret
      exact ⟨A, x, c, rfl, ho, hb⟩
/-! sets without others -/
def minS (a b : List Int) : List Int := a.filter fun x => !memB b x
theorem minS_yes {a b : List Int} {k : Nat} (h : k < a.length) (hm : memB b (nth a k) = false) : minS (a.take (k + 1)) b = minS (a.take k) b ++ [nth a k] := by
  rw [nth_get h] at hm ⊢
  unfold minS
  rw [List.take_add_one, List.getElem?_eq_getElem h, List.filter_append]
  simp [hm]
theorem minS_no {a b : List Int} {k : Nat} (h : k < a.length) (hm : memB b (nth a k) = true) : minS (a.take (k + 1)) b = minS (a.take k) b := by
  rw [nth_get h] at hm
  unfold minS
  rw [List.take_add_one, List.getElem?_eq_getElem h, List.filter_append]
  simp [hm]
theorem minS_len (a b : List Int) : (minS a b).length ≤ a.length := List.length_filter_le _ _
theorem memB_tB (b : List Int) (x : Int) : tB (x ∈ b) = memB b x := by
  cases h : memB b x with
  | true => exact tB_yes (memB_true.1 h)
  | false => exact tB_no (memB_false.1 h)
theorem l01Set_any (A : Option Addr) (n c : Nat) (z : List Int) (w : World) (ha : RI w A n z) (hn : n ≤ 9223372036854775807) :
    Calls Tryz.prog 174 #[.slice A n c] w (Quiet w (.bool (tB (Rises z 0 31)))) := by
  have h := l00Rises_any A n c z 0 31 w ha hn
  go_enter Tryz.func174, Tryz.ntmps174
  go_wp2_with fail
  refine h.mono ?_
  rintro e w' ⟨rfl, hd⟩
  go_wp2
  go_ret
  exact ⟨rfl, hd⟩
set_option maxRecDepth 100000 in
set_option maxHeartbeats 4000000 in
theorem l01Both_any (A B : Option Addr) (n c m d : Nat) (a b : List Int) (w : World) (ha : RI w A n a) (hb : RI w B m b) (hn : n ≤ 1000) (hm : m ≤ 1000) (va : Rises a 0 31) (vb : Rises b 0 31) :
    Calls Tryz.prog 135 #[.slice A n c, .slice B m d, .bool false] w (RetI w 2 (minS a b)) := by
  have h1 := l01Set_any A n c a w ha (by omega)
  have HB1 := Lib.hid (fun (W : World) (h : Below w.heap.size w W) => l01Set_any B m d b W (hb.keep h) (by omega))
  rw [tB_yes va] at h1
  rw [tB_yes vb] at HB1
  have HA := Lib.hid (fun (W : World) (h : Below w.heap.size w W) => ha.keep h)
  have HH := Lib.hid (fun (x : Int) (W : World) (h : Below w.heap.size w W) => l00Has_any B m d b x W (hb.keep h) (by omega))
  have hal := ha.len
  clear va vb ha hb
  go_enter Tryz.func135, Tryz.ntmps135
  go_wp2_with fail
  refine h1.mono ?_
  rintro e w1 ⟨rfl, hd1⟩
  have hw1 := hd1.below
  go_wp2_with fail
  refine (HB1.out w1 hw1).mono ?_
  rintro e w2 ⟨rfl, hd2⟩
  have hw2 := hw1.trans (hd2.below.mono hw1.size)
  clear h1 hd1 hd2 HB1 hw1
  have hb0 := hw2.alloc hw2.size (.cells #[] 2)
  have ho0 := (OI.lit0 w2 2).more hw2.size
  go_wp2
  clear hw2
  generalize w2.alloc (.cells #[] 2) = W0 at *
  generalize w2.heap.size = g0 at *
  go_loopw [7, 8] (fun lv iv wr => ∃ (i j : Nat) (R : Option Addr) (rc : Nat), i ≤ n ∧ iv = .int .i64 i ∧ lv = .slice R j rc ∧ OI wr w.heap.size 2 R j rc (minS (a.take i) b) ∧ Below w.heap.size w wr) (fun _ iv _ => n - (intOf iv).toNat)
  case atStart => exact ⟨0, 0, _, 0, Nat.zero_le _, rfl, rfl, by simpa [minS] using ho0, hb0⟩
  case round =>
    clear ho0 hb0
    obtain ⟨i, j, R, rc, hi, rfl, rfl, ho, hb⟩ := hrel
    have hbs := hb.size
    have hjl := ho.len
    have hml := minS_len (a.take i) b
    rw [List.length_take] at hml
    by_cases hli : i < n
    · obtain ⟨ad, rfl, cx, ix⟩ := (HA.out wr hb).get hli
      have hh := HH.out (nth a i) wr hb
      rw [memB_tB] at hh
      cases hm1 : memB b (nth a i) with
      | false =>
        have HST := Lib.hid (minS_yes (by omega) hm1)
        rw [hm1] at hh
        clear hm1
        generalize nth a i = x at *
        go_wp2_with fail
        refine hh.mono ?_
        rintro e w' ⟨rfl, rfl⟩
        go_wp2_with (at_builtin; refine app_int _ rfl _ _ rfl w.heap.size R j rc _ rfl ho x wr.heap.size rfl rfl ix (by omega) (by omega) ?_; intro A5 c5 w5 ho5 hg5 hf5; have hb5 := below_own hb hg5 (by omega) (fun b hb => (ho.os.lt hb).1); rw [← HST.out] at ho5)
        go_round
        case rel => exact ⟨i + 1, j + 1, A5, c5, by omega, by go_num, rfl, ho5, hb5⟩
        case measure => simp only [intOf]; omega
      | true =>
        have HST := Lib.hid (minS_no (by omega) hm1)
        rw [hm1] at hh
        clear hm1
        generalize nth a i = x at *
        go_wp2_with fail
        refine hh.mono ?_
        rintro e w' ⟨rfl, rfl⟩
        go_wp2
        go_round
        case rel => exact ⟨i + 1, j, R, rc, by omega, by go_num, rfl, by rw [HST.out]; exact ho, hb⟩
        case measure => simp only [intOf]; omega
    · obtain rfl : i = n := by omega
      rw [List.take_of_length_le (by omega)] at ho
      go_wp2
      go_ret
      exact ⟨R, j, rc, rfl, ho, hb⟩
theorem specMinus_any (A B : Option Addr) (n c m d : Nat) (a b : List Int) (w : World) (ha : RI w A n a) (hb : RI w B m b) (hn : n ≤ 1000) (hm : m ≤ 1000) (va : Rises a 0 31) (vb : Rises b 0 31) :
    Calls Tryz.prog 84 #[.slice A n c, .slice B m d] w (RetI w 2 (minS a b)) := by
  have hf := l01Both_any A B n c m d a b w ha hb hn hm va vb
  clear ha hb va vb
  go_enter Tryz.func84, Tryz.ntmps84
  go_wp2_with fail
  refine hf.mono ?_
  rintro e w1 ⟨R, rn, rc, rfl, ho, hb⟩
  go_wp2
  go_ret
  exact ⟨R, rn, rc, rfl, ho, hb⟩
theorem minK_minS {v : Nat} {b : List Int} (hv : v ≤ 32) : minK (iotaP v) b 32 = minS (iotaP v) b := by
  have e1 : ∀ x : Nat, memB (iotaP v) (x : Int) = decide (x < v) := fun x => by
    rw [Bool.eq_iff_iff, memB_true, decide_eq_true_eq]
    constructor
    · intro h
      obtain ⟨i, hi, e⟩ := List.mem_iff_getElem.1 h
      rw [iotaP_len] at hi
      rw [← nth_get (by rw [iotaP_len]; exact hi), iotaP_nth hi] at e
      omega
    · intro h
      have := List.getElem_mem (l := iotaP v) (n := x) (by rw [iotaP_len]; exact h)
      rwa [← nth_get (by rw [iotaP_len]; exact h), iotaP_nth h] at this
  unfold minK minS iotaP
  rw [List.filter_map]
  congr 1
  have e2 : (List.range 32).filter (minB (iotaP v) b) = (List.range v).filter fun (x : Nat) => !memB b (x : Int) := by
    have key : ∀ d, (List.range (v + d)).filter (minB (iotaP v) b) = (List.range v).filter fun (x : Nat) => !memB b (x : Int) := by
      intro d
      induction d with
      | zero =>
        refine List.filter_congr fun x hx => ?_
        unfold minB
        rw [e1, decide_eq_true (show x < v by have := List.mem_range.1 hx; omega), Bool.true_and]
      | succ d ih =>
        rw [show v + (d + 1) = v + d + 1 by omega, List.range_succ, List.filter_append, ih]
        have : minB (iotaP v) b (v + d) = false := by
          unfold minB
          rw [e1, decide_eq_false (by omega), Bool.false_and]
        simp [this]
    have := key (32 - v)
    rwa [show v + (32 - v) = 32 by omega] at this
  exact e2
def PutTo {α : Type} (c : α → α → Int) (zs : List α) (x : α) (k : Nat) (L : List α) (d : Bool) : Prop :=
  (d = false ∧ L = zs.take k ∧ ∀ y, y ∈ zs.take k → c y x < 0) ∨ (d = true ∧ L ++ zs.drop k = putG c zs x)
section
variable {α : Type} {c : α → α → Int} {zs L : List α} {x : α} {k : Nat} {d : Bool}
theorem putTo_zero (c : α → α → Int) (zs : List α) (x : α) : PutTo c zs x 0 [] false := .inl ⟨rfl, by simp, fun y h => by simp at h⟩
theorem putTo_done {y : α} (h : PutTo c zs x k L true) (hk : zs[k]? = some y) : PutTo c zs x (k + 1) (L ++ [y]) true := by
  obtain ⟨hl, rfl⟩ := List.getElem?_eq_some_iff.1 hk
  rcases h with ⟨h, _⟩ | ⟨_, h⟩
  · cases h
  · refine .inr ⟨rfl, ?_⟩
    rw [List.append_assoc, List.singleton_append, ← List.drop_eq_getElem_cons hl]
    exact h
theorem putTo_less {y : α} (h : PutTo c zs x k L false) (hk : zs[k]? = some y) (hc : c y x < 0) : PutTo c zs x (k + 1) (L ++ [y]) false := by
  obtain ⟨hl, rfl⟩ := List.getElem?_eq_some_iff.1 hk
  rcases h with ⟨_, h1, h2⟩ | ⟨h, _⟩
  · refine .inl ⟨rfl, by rw [List.take_succ_eq_append_getElem hl, h1], fun z hz => ?_⟩
    rw [List.take_succ_eq_append_getElem hl] at hz
    rcases List.mem_append.1 hz with hz | hz
    · exact h2 z hz
    · rw [List.mem_singleton.1 hz]; exact hc
  · cases h
theorem putTo_at {y : α} (h : PutTo c zs x k L false) (hk : zs[k]? = some y) (hc : ¬ c y x < 0) : putG c zs x = L ++ ((if c y x = 0 then [] else [x]) ++ y :: zs.drop (k + 1)) := by
  obtain ⟨hl, rfl⟩ := List.getElem?_eq_some_iff.1 hk
  rcases h with ⟨_, h1, h2⟩ | ⟨h, _⟩
  · rw [putG_before (k := k) (by omega) h2, ← h1, List.drop_eq_getElem_cons hl, putG, if_neg hc]
    split <;> simp
  · cases h
theorem putTo_same {y : α} (h : PutTo c zs x k L false) (hk : zs[k]? = some y) (hc : c y x = 0) : PutTo c zs x (k + 1) (L ++ [y]) true := by
  refine .inr ⟨rfl, ?_⟩
  rw [putTo_at h hk (by omega), if_pos hc]
  simp
theorem putTo_more {y : α} (h : PutTo c zs x k L false) (hk : zs[k]? = some y) (hc : 0 < c y x) : PutTo c zs x (k + 1) (L ++ [x] ++ [y]) true := by
  refine .inr ⟨rfl, ?_⟩
  rw [putTo_at h hk (by omega), if_neg (by omega)]
  simp
theorem putTo_end1 (h : PutTo c zs x zs.length L true) : L = putG c zs x := by
  rcases h with ⟨h, _⟩ | ⟨_, h⟩
  · cases h
  · simpa using h
theorem putTo_end0 (h : PutTo c zs x zs.length L false) : L ++ [x] = putG c zs x := by
  rcases h with ⟨_, h1, h2⟩ | ⟨h, _⟩
  · rw [putG_before (k := zs.length) (Nat.le_refl _) h2, h1]
    simp [putG]
  · cases h
theorem putTo_len (h : PutTo c zs x k L d) (hk : k ≤ zs.length) : L.length ≤ k + 1 := by
  rcases h with ⟨_, h1, _⟩ | ⟨_, h⟩
  · rw [h1, List.length_take]; omega
  · have h2 := putG_len (c := c) zs x
    rw [← h] at h2
    simp at h2
    omega
end
set_option maxRecDepth 100000 in
set_option maxHeartbeats 2000000 in
theorem l00Put_any (A : Option Addr) (n c : Nat) (zs : List Int) (x : Int) (w : World) (ha : RI w A n zs) (hn : n ≤ 1099511627776) (hx : I64 x) :
    Calls Tryz.prog 126 #[.slice A n c, .int .i64 x] w (RetI w 2 (putG sgnI zs x)) := by
  have hla := Lib.hid ha.len
  have ho0 := OI.lit w w.heap.size 2 [] (Nat.le_refl _) (by simp) All64.nil_
  have hw0 := below_alloc w (.cells #[] 2)
  go_enter Tryz.func126, Tryz.ntmps126
  go_wp2
  go_loopw [5, 6, 7] (fun v f i wr => ∃ (k m : Nat) (A' : Option Addr) (c' : Nat) (L : List Int) (d : Bool), k ≤ n ∧ i = .int .i64 k ∧ v = .slice A' m c' ∧ f = .bool d ∧ OI wr w.heap.size 2 A' m c' L ∧ Below w.heap.size w wr ∧ PutTo sgnI zs x k L d) (fun _ _ i _ => n - (intOf i).toNat)
  case atStart => exact ⟨0, _, _, _, [], _, Nat.zero_le _, rfl, rfl, rfl, ho0, hw0, putTo_zero _ _ _⟩
  case round =>
    obtain ⟨k, m, A', c', L, d, hk, rfl, rfl, rfl, ho, hw, hp⟩ := hrel
    have hm : m ≤ k + 1 := by have := ho.len; have := putTo_len hp (by rw [hla.out]; exact hk); omega
    clear ho0 hw0
    by_cases hlt : k < n
    · obtain ⟨a, rfl, hca, hia⟩ := (ha.keep hw).get hlt
      have hz : zs[k]? = some (nth zs k) := nth_some (by rw [hla.out]; exact hlt)
      cases d with
      | true =>
        have HP := Lib.hid (putTo_done hp hz)
        clear hp hz
        go_wp2_with (at_builtin; refine app_int _ rfl (.tmp 35) (.tmp 40) rfl w.heap.size A' m c' L rfl ho (nth zs k) _ rfl (by simp) hia (by omega) hw.size ?_; intro A2 c2 w3 ho3 hg3 hn3)
        have hw3 := below_own hw hg3 hw.size (fun b hb => (ho.os.lt hb).1)
        clear ho hg3 hn3 hca
        go_roundw
        case rel => exact ⟨k + 1, _, _, _, _, true, by omega, by go_num, rfl, rfl, ho3, hw3, HP.out⟩
        case measure => simp [intOf]; omega
      | false =>
        by_cases h1 : nth zs k < x
        · have HP := Lib.hid (putTo_less hp hz (by rcases sgnI_cases (nth zs k) x with ⟨_, e⟩ | ⟨_, e⟩ | ⟨_, e⟩ <;> omega))
          clear hp hz
          go_wp2_with (at_builtin; refine app_int _ rfl (.tmp 35) (.tmp 40) rfl w.heap.size A' m c' L rfl ho (nth zs k) _ rfl (by simp) hia (by omega) hw.size ?_; intro A2 c2 w3 ho3 hg3 hn3)
          have hw3 := below_own hw hg3 hw.size (fun b hb => (ho.os.lt hb).1)
          clear ho hg3 hn3 hca
          go_roundw
          case rel => exact ⟨k + 1, _, _, _, _, false, by omega, by go_num, rfl, rfl, ho3, hw3, HP.out⟩
          case measure => simp [intOf]; omega
        · have h1' : x ≤ nth zs k := by omega
          by_cases h2 : nth zs k = x
          · have HP := Lib.hid (putTo_same hp hz (by rw [h2]; exact sgnI_ord.self x))
            have h3 : ¬ x < nth zs k := by omega
            clear hp hz h2
            go_wp2_with (at_builtin; refine app_int _ rfl (.tmp 35) (.tmp 40) rfl w.heap.size A' m c' L rfl ho (nth zs k) _ rfl (by simp) hia (by omega) hw.size ?_; intro A2 c2 w3 ho3 hg3 hn3)
            have hw3 := below_own hw hg3 hw.size (fun b hb => (ho.os.lt hb).1)
            clear ho hg3 hn3 hca
            go_roundw
            case rel => exact ⟨k + 1, _, _, _, _, true, by omega, by go_num, rfl, rfl, ho3, hw3, HP.out⟩
            case measure => simp [intOf]; omega
          · have h3 : x < nth zs k := by omega
            have HP := Lib.hid (putTo_more hp hz (by rcases sgnI_cases (nth zs k) x with ⟨_, e⟩ | ⟨_, e⟩ | ⟨_, e⟩ <;> omega))
            have hca0 := below_cell (below_alloc wr (.cells #[.int .i64 x] 2)) hca
            clear hp hz h2 h1 h1'
            go_wp2_with (first
              | (at_builtin; refine app_int _ rfl (.tmp 31) (.tmp 33) rfl w.heap.size A' m c' L rfl ho x _ rfl (by simp) hx (by omega) hw.size ?_; intro A2 c2 w3 ho3 hg3 hn3; have hw3 := below_own hw hg3 hw.size (fun b hb => (ho.os.lt hb).1); obtain ⟨a3, e3, hc3, _⟩ := (ha.keep hw3).get hlt; injection e3 with e3; subst e3; clear hca hca0)
              | (at_builtin; refine app_int _ rfl (.tmp 35) (.tmp 40) rfl w.heap.size A2 (m + 1) c2 (L ++ [x]) rfl ho3 (nth zs k) _ rfl (by simp) hia (by omega) hw3.size ?_; intro A4 c4 w4 ho4 hg4 hn4))
            have hw4 := below_own hw3 hg4 hw3.size (fun b hb => (ho3.os.lt hb).1)
            clear ho hg3 hn3 ho3 hg4 hn4 hc3
            go_roundw
            case rel => exact ⟨k + 1, _, _, _, _, true, by omega, by go_num, rfl, rfl, ho4, hw4, HP.out⟩
            case measure => simp [intOf]; omega
    · obtain rfl : k = n := by omega
      rw [← hla.out] at hp
      cases d with
      | true =>
        have HP := Lib.hid (putTo_end1 hp)
        clear hp
        go_wp2
        go_ret
        exact ⟨_, _, _, rfl, by rw [← HP.out]; exact ho, hw⟩
      | false =>
        have HP := Lib.hid (putTo_end0 hp)
        clear hp
        go_wp2_with (at_builtin; refine app_int _ rfl (.tmp 44) (.tmp 46) rfl w.heap.size A' m c' L rfl ho x _ rfl (by simp) hx (by omega) hw.size ?_; intro A2 c2 w3 ho3 hg3 hn3)
        have hw3 := below_own hw hg3 hw.size (fun b hb => (ho.os.lt hb).1)
        go_ret
        exact ⟨_, _, _, rfl, by rw [← HP.out]; exact ho3, hw3⟩
end Go.Proofs.YtnmcmologlgccaaGreat
