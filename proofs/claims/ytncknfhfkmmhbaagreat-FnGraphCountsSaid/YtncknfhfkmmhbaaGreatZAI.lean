/- Permutations as lists, plain. No program in sight. -/
import Derived.Test.YtncknfhfkmmhbaaGreatZAG
import Derived.Test.YtncknfhfkmmhbaaGreatZAH
import Derived.Test.YtncknfhfkmmhbaaGreatZAF
import Derived.Test.YtncknfhfkmmhbaaGreatZAE
set_option linter.unusedVariables false
set_option linter.unusedSimpArgs false
namespace Go.Proofs.YtncknfhfkmmhbaaGreat

def relTo (cs p : List Int) (k : Nat) : List Int := (List.range k).foldl (fun acc v => acc.set (nth p v).toNat (nth cs v)) (List.replicate cs.length 0)
def relC (cs p : List Int) : List Int := relTo cs p cs.length
theorem relTo_zero (cs p : List Int) : relTo cs p 0 = List.replicate cs.length 0 := rfl
theorem relTo_step (cs p : List Int) (k : Nat) : relTo cs p (k + 1) = (relTo cs p k).set (nth p k).toNat (nth cs k) := by simp [relTo, List.range_succ, List.foldl_append]
theorem relTo_len (cs p : List Int) (k : Nat) : (relTo cs p k).length = cs.length := by
  induction k with
  | zero => simp [relTo]
  | succ k ih => rw [relTo_step, List.length_set, ih]
/-! permutations as lists -/
theorem perm_inj {p : List Int} (h : Perm p) {i j : Nat} (hi : i < p.length) (hj : j < p.length) (he : nth p i = nth p j) : i = j := by
  rcases Nat.lt_trichotomy i j with h1 | h1 | h1
  · exact absurd he (h.ne i j h1 hj)
  · exact h1
  · exact absurd he.symm (h.ne j i h1 hi)
def iotaP (n : Nat) : List Int := (List.range n).map fun (k : Nat) => (k : Int)
theorem iotaP_len (n : Nat) : (iotaP n).length = n := by simp [iotaP]
theorem iotaP_nth {n k : Nat} (h : k < n) : nth (iotaP n) k = k := by rw [nth_get (by rw [iotaP_len]; exact h)]; simp [iotaP]
theorem nth_ext {l m : List Int} (hl : l.length = m.length) (h : ∀ k, k < l.length → nth l k = nth m k) : l = m := by
  apply List.ext_getElem hl
  intro k h1 h2
  have := h k h1
  rwa [nth_get h1, nth_get h2] at this
theorem nth_set {l : List Int} {i j : Nat} {x : Int} (hj : j < l.length) : nth (l.set i x) j = if i = j then x else nth l j := by
  rw [nth_get (by simpa using hj), List.getElem_set]
  split
  · rfl
  · rw [nth_get hj]
theorem perm_iota {p : List Int} (h : Perm p) : p.Perm (iotaP p.length) := by
  have h1 := perm_inOrder h
  have h2 : srt p = iotaP p.length := nth_ext (by rw [srt_len, iotaP_len]) fun k hk => by
    rw [srt_len] at hk
    rw [h1 k hk, iotaP_nth hk]
  rw [← h2]
  exact (srt_perm p).symm
theorem perm_surj {p : List Int} (h : Perm p) {i : Nat} (hi : i < p.length) : ∃ v, v < p.length ∧ nth p v = i := by
  have : (i : Int) ∈ p := (perm_iota h).mem_iff.2 (by unfold iotaP; exact List.mem_map.2 ⟨i, by simpa using hi, rfl⟩)
  exact mem_nth this
theorem perm_lt {p : List Int} (h : Perm p) {v : Nat} (hv : v < p.length) : (nth p v).toNat < p.length ∧ ((nth p v).toNat : Int) = nth p v := by
  have := h.bd v hv
  omega
theorem relTo_nth {cs p : List Int} (hp : Perm p) (hl : p.length = cs.length) : ∀ (k : Nat), k ≤ cs.length → ∀ v, v < k → nth (relTo cs p k) (nth p v).toNat = nth cs v
  | 0, _, v, h => absurd h (by omega)
  | k + 1, hk, v, hv => by
    have b := perm_lt hp (v := v) (by omega)
    have b' := perm_lt hp (v := k) (by omega)
    rw [relTo_step, nth_set (by rw [relTo_len]; omega)]
    by_cases e : k = v
    · subst e
      rw [if_pos rfl]
    · rw [if_neg (fun h => e (perm_inj hp (by omega) (by omega) (by omega)))]
      exact relTo_nth hp hl k (by omega) v (by omega)
theorem relC_nth {cs p : List Int} (hp : Perm p) (hl : p.length = cs.length) {v : Nat} (hv : v < cs.length) : nth (relC cs p) (nth p v).toNat = nth cs v := relTo_nth hp hl _ (Nat.le_refl _) v hv
theorem relC_len (cs p : List Int) : (relC cs p).length = cs.length := relTo_len cs p _
/-- first p, then q -/
def thenP (p q : List Int) : List Int := p.map fun x => nth q x.toNat
theorem thenP_len (p q : List Int) : (thenP p q).length = p.length := by simp [thenP]
theorem thenP_nth {p q : List Int} {v : Nat} (hv : v < p.length) : nth (thenP p q) v = nth q (nth p v).toNat := by
  rw [nth_get (by rw [thenP_len]; exact hv), nth_get hv]
  simp [thenP]
def invP (p : List Int) : List Int := relC (iotaP p.length) p
theorem invP_len (p : List Int) : (invP p).length = p.length := by rw [invP, relC_len, iotaP_len]
theorem invP_nth {p : List Int} (hp : Perm p) {v : Nat} (hv : v < p.length) : nth (invP p) (nth p v).toNat = v := by
  rw [invP, relC_nth hp (by rw [iotaP_len]) (by rw [iotaP_len]; exact hv), iotaP_nth hv]
theorem perm_of {n : Nat} {p : List Int} (hl : p.length = n) (hb : ∀ v, v < n → 0 ≤ nth p v ∧ nth p v < n) (hi : ∀ u v, u < n → v < n → nth p u = nth p v → u = v) : Perm p :=
  ⟨fun k hk => by rw [hl] at hk ⊢; exact hb k hk, fun i j hij hj e => by have := hi i j (by omega) (by omega) e; omega⟩
theorem thenP_perm {p q : List Int} (hp : Perm p) (hq : Perm q) (hl : p.length = q.length) : Perm (thenP p q) := by
  refine perm_of (thenP_len p q) (fun v hv => ?_) (fun u v hu hv e => ?_)
  · rw [thenP_nth hv]
    have := perm_lt hp hv
    have := hq.bd (nth p v).toNat (by omega)
    omega
  · rw [thenP_nth hu, thenP_nth hv] at e
    have a := perm_lt hp hu
    have b := perm_lt hp hv
    have := perm_inj hq (by omega) (by omega) e
    exact perm_inj hp hu hv (by omega)
theorem invP_right {p : List Int} (hp : Perm p) {i : Nat} (hi : i < p.length) : nth p (nth (invP p) i).toNat = i := by
  obtain ⟨v, hv, e⟩ := perm_surj hp hi
  have := invP_nth hp hv
  rw [e] at this
  simp at this
  rw [this]
  simpa using e
theorem invP_perm {p : List Int} (hp : Perm p) : Perm (invP p) := by
  refine perm_of (invP_len p) (fun v hv => ?_) (fun u v hu hv e => ?_)
  · obtain ⟨u, hu, e⟩ := perm_surj hp hv
    have := invP_nth hp hu
    rw [e] at this
    simp at this
    rw [this]
    omega
  · have a := invP_right hp hu
    have b := invP_right hp hv
    rw [e, b] at a
    omega
theorem iotaP_perm (n : Nat) : Perm (iotaP n) := by
  refine perm_of (iotaP_len n) (fun v hv => ?_) (fun u v hu hv e => ?_)
  · rw [iotaP_nth hv]; omega
  · rw [iotaP_nth hu, iotaP_nth hv] at e; omega
end Go.Proofs.YtncknfhfkmmhbaaGreat
/- The permutation that leaves all in place, on both sides. No condition beyond those stated. -/
namespace Go.Proofs.YtncknfhfkmmhbaaGreat
open Go.RowKit

theorem iota_step {n k : Nat} (h : k < n) : (copied (iotaP n) (List.replicate n 0) k).set k (k : Int) = copied (iotaP n) (List.replicate n 0) (k + 1) := by
  have := copied_step (xs := iotaP n) (zs := List.replicate n 0) (j := k) (by rw [iotaP_len]; exact h) (by simpa using h)
  rwa [iotaP_nth h] at this
set_option maxHeartbeats 1000000 in
theorem identity_any (n : Nat) (w : World) (hn : n ≤ 1048576) :
    Calls Tryz.prog 49 #[.int .i64 n] w (RetI w 2 (iotaP n)) := by
  have hmk := run_make_row' (P := Tryz.prog) 33 2 (.int .i64 0) 8 Tryz.underlying33 int_info rfl .i64 .i64 n (by omega) (by omega)
  have ho0 := OI.made w w.heap.size 2 n (Nat.le_refl _) (by omega)
  rw [← copied_zero (iotaP n) (List.replicate n 0)] at ho0
  have hb0 := below_alloc w (.cells (madeCells #[.int .i64 0] n) 2)
  go_enter Tryz.func49, Tryz.ntmps49
  go_wp2
  go_loopw [4, 9] (fun _ i wr => ∃ k : Nat, k ≤ n ∧ i = .int .i64 k ∧ OI wr w.heap.size 2 (some ⟨w.heap.size, 0, none⟩) n n (copied (iotaP n) (List.replicate n 0) k) ∧ Below w.heap.size w wr) (fun _ i _ => n - (intOf i).toNat)
  case atStart => exact ⟨0, Nat.zero_le _, rfl, ho0, hb0⟩
  case round =>
    clear ho0 hb0 hmk
    obtain ⟨k, hk, rfl, ho, hw⟩ := hrel
    by_cases hlt : k < n
    · obtain ⟨g, hg, cc, cf, -⟩ := ho.cell hlt
      cases hg
      have ho2 := ho.set k (u := (k : Int)) (by unfold I64; omega)
      rw [iota_step hlt] at ho2
      have hw2 := Below.setCell hw (p := ⟨w.heap.size, k, none⟩) (Nat.le_refl _) (.int .i64 (k : Int))
      clear ho hw
      go_wp2
      go_roundw
      case rel => exact ⟨k + 1, by omega, by go_num, ho2, hw2⟩
      case measure => simp [intOf]; omega
    · obtain rfl : k = n := by omega
      have hall := copied_all (xs := iotaP k) (zs := List.replicate k 0) (by rw [iotaP_len]; simp)
      rw [iotaP_len] at hall
      rw [hall] at ho
      go_wp2
      go_ret
      exact ⟨_, _, _, rfl, ho, hw⟩
end Go.Proofs.YtncknfhfkmmhbaaGreat
/- A place of a row of one's own rows: where it stands, and what it is to write it over. No condition beyond those stated. -/
namespace Go.Proofs.YtncknfhfkmmhbaaGreat
open Go.RowKit

section
variable {w w' : World} {B : Nat} {e2 e1 : TypeId} {A : Option Addr} {n c : Nat} {vs : List Sl} {zss : List (List Int)}
/-- the row i, its place j -/
structure At2 (w : World) (B : Nat) (e2 e1 : TypeId) (A : Option Addr) (n c : Nat) (vs : List Sl) (zss : List (List Int)) (i j g r m k : Nat) : Prop where
  ha : A = some ⟨g, 0, none⟩
  co : w.cell? ⟨g, i, none⟩ = some (.slice (some ⟨r, 0, none⟩) m k)
  fo : w.frozen? ⟨g, i, none⟩ = false
  hm : (row zss i).length = m
  mle : m ≤ k
  k1 : k ≤ 9223372036854775807
  ci : w.cell? ⟨r, j, none⟩ = some (.int .i64 (nth (row zss i) j))
  fi : w.frozen? ⟨r, j, none⟩ = false
  br : B ≤ r
  rl : r < w.heap.size
  iz : I64 (nth (row zss i) j)
  set : ∀ u, I64 u → ORv (w.setCell ⟨r, j, none⟩ (.int .i64 u)) B e2 e1 A n c vs (zss.set i ((row zss i).set j u))
theorem ORv.at2 (h : ORv w B e2 e1 A n c vs zss) {i j : Nat} (hi : i < n) (hj : j < (row zss i).length) : ∃ g r m k, At2 w B e2 e1 A n c vs zss i j g r m k := by
  obtain ⟨g, v, ha, hv, co, fo, hr⟩ := h.get hi
  obtain ⟨r, hr1, ci, fi, iz⟩ := hr.cell (k := j) (by rw [← hr.len]; exact hj)
  have hlt := hr.os.lt (k := r) (by rw [hr1]; rfl)
  refine ⟨g, r, v.2.1, v.2.2, ha, by rw [co, hr1], fo, hr.len, hr.os.cap.1, hr.os.cap.2, ci, fi, hlt.1, hlt.2, iz, fun u hu => ?_⟩
  have h2 : OI w B e1 (some ⟨r, 0, none⟩) v.2.1 v.2.2 (row zss i) := by rw [← hr1]; exact hr
  have h3 := h2.set j hu
  rw [← hr1] at h3
  refine h.wrote hv ?_ h3
  rw [hr1]
  exact ⟨rfl, rfl, rfl, by simp [World.setCell], fun k _ hk => Below.heap_setCell _ _ _ _ (fun e => hk (by rw [e]; rfl))⟩
theorem ORv.keptB {g : Nat} (h : ORv w B e2 e1 A n c vs zss) (hg : w.grownBy w' (some g)) (hb : g < B) : ORv w' B e2 e1 A n c vs zss := by
  have far : ∀ {e : TypeId} {size : Nat} {A : Option Addr} {n c : Nat} {xs : List Value}, OS w B e size A n c xs → blk A = none ∨ blk A ≠ some g := fun {e size A n c xs} ho => by
    cases A with
    | none => exact .inl rfl
    | some a => exact .inr fun e => by have := (ho.lt (k := a.block) rfl).1; simp only [blk, Option.map_some, Option.some.injEq] at e; omega
  refine h.kept hg (far h.os) fun j v hv => ?_
  have hj : j < zss.length := by rw [← h.len]; exact (List.getElem?_eq_some_iff.1 hv).1
  exact far (h.rows j v _ hv (List.getElem?_eq_getElem hj)).os
theorem OR.keptB {g : Nat} (h : OR w B e2 e1 A n c zss) (hg : w.grownBy w' (some g)) (hb : g < B) : OR w' B e2 e1 A n c zss := by
  obtain ⟨vs, h⟩ := h
  exact ⟨vs, h.keptB hg hb⟩
theorem OI.keptB {g : Nat} {zs : List Int} (h : OI w B e1 A n c zs) (hg : w.grownBy w' (some g)) (hb : g < B) : OI w' B e1 A n c zs :=
  h.kept hg (by
    cases A with
    | none => exact .inl rfl
    | some a => exact .inr fun e => by have := (h.os.lt (k := a.block) rfl).1; simp only [blk, Option.map_some, Option.some.injEq] at e; omega)
end
end Go.Proofs.YtncknfhfkmmhbaaGreat
/- Permutations and squares: whether lists are such, the reference's side. No condition beyond those stated. -/
namespace Go.Proofs.YtncknfhfkmmhbaaGreat
open Go.RowKit

theorem RI.take {w : World} {A : Option Addr} {n k : Nat} {zs : List Int} (h : RI w A n zs) (hk : k ≤ n) : RI w A k (zs.take k) :=
  ⟨by rw [List.length_take, h.len]; omega, fun j x hx => by
    rw [List.getElem?_take] at hx
    split at hx
    · exact RS.at_ h j x hx
    · cases hx⟩
theorem nth_take {zs : List Int} {k j : Nat} (h : j < k) : nth (zs.take k) j = nth zs j := by
  simp [nth, List.getD, List.getElem?_take, h]
def noneTo' (zs : List Int) (x : Int) (k : Nat) : Prop := ∀ j, j < k → nth zs j ≠ x
def permTo (p : List Int) (k : Nat) : Prop := (∀ j, j < k → 0 ≤ nth p j ∧ nth p j < p.length) ∧ ∀ i j, i < j → j < k → nth p i ≠ nth p j
theorem permTo_step {p : List Int} {k : Nat} (h : permTo p k) (hk : k < p.length) (h1 : 0 ≤ nth p k ∧ nth p k ≤ (p.length : Int) - 1) (h2 : nth p k ∉ p.take k) : permTo p (k + 1) :=
  ⟨fun j hj => by
    rcases Nat.lt_succ_iff_lt_or_eq.1 hj with h' | h'
    · exact h.1 j h'
    · rw [h']; omega,
   fun i j hij hj => by
    rcases Nat.lt_succ_iff_lt_or_eq.1 hj with h' | h'
    · exact h.2 i j hij h'
    · rw [h'] at hij ⊢
      intro e
      refine h2 ?_
      rw [← e, ← nth_take (k := k) hij]
      exact nth_mem (by rw [List.length_take]; omega)⟩
end Go.Proofs.YtncknfhfkmmhbaaGreat
