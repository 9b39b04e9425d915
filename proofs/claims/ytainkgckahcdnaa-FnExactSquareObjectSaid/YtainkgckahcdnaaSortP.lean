/- Sorted lists, plain: a list of n numbers is a permutation of 0 to n - 1 just if it is that in order. No program in sight. -/
import Derived.Test.YtainkgckahcdnaaPlain
namespace Go.Proofs.Ytainkgckahcdnaa

def srt (zs : List Int) : List Int := zs.mergeSort fun x y => decide (x ≤ y)
theorem srt_perm (zs : List Int) : (srt zs).Perm zs := List.mergeSort_perm _ _
theorem srt_len (zs : List Int) : (srt zs).length = zs.length := (srt_perm zs).length_eq
theorem srt_le (zs : List Int) : (srt zs).Pairwise fun x y => x ≤ y := by
  have h := List.pairwise_mergeSort (le := fun x y : Int => decide (x ≤ y)) (fun a b c h1 h2 => by simp at *; omega) (fun a b => by simp; omega) zs
  exact h.imp fun h => by simpa using h
theorem srt_mono {zs : List Int} {i j : Nat} (h : i ≤ j) (hj : j < zs.length) : nth (srt zs) i ≤ nth (srt zs) j := by
  have hl := srt_len zs
  rcases Nat.eq_or_lt_of_le h with rfl | h'
  · exact Int.le_refl _
  · have := List.pairwise_iff_getElem.1 (srt_le zs) i j (by omega) (by omega) h'
    rwa [nth_get (by omega), nth_get (by omega)]
theorem nodup_ne {zs : List Int} (h : ∀ i j, i < j → j < zs.length → nth zs i ≠ nth zs j) : zs.Nodup := by
  rw [List.Nodup, List.pairwise_iff_getElem]
  intro i j hi hj hij
  have := h i j hij hj
  rwa [nth_get hi, nth_get hj] at this
theorem ne_nodup {zs : List Int} (h : zs.Nodup) : ∀ i j, i < j → j < zs.length → nth zs i ≠ nth zs j := fun i j hij hj => by
  rw [List.Nodup, List.pairwise_iff_getElem] at h
  have := h i j (by omega) hj hij
  rwa [nth_get (by omega), nth_get hj]
theorem mem_nth {zs : List Int} {x : Int} (h : x ∈ zs) : ∃ k, k < zs.length ∧ nth zs k = x := by
  obtain ⟨k, hk, rfl⟩ := List.mem_iff_getElem.1 h
  exact ⟨k, hk, nth_get hk⟩
theorem nth_mem {zs : List Int} {k : Nat} (h : k < zs.length) : nth zs k ∈ zs := by
  rw [nth_get h]
  exact List.getElem_mem h
def inOrder (zs : List Int) : Prop := ∀ k, k < zs.length → nth (srt zs) k = (k : Int)
theorem perm_inOrder {zs : List Int} (h : Perm zs) : inOrder zs := by
  have hl := srt_len zs
  have hnd : (srt zs).Nodup := (srt_perm zs).nodup_iff.2 (nodup_ne h.ne)
  have hne := ne_nodup hnd
  have hbd : ∀ k, k < zs.length → 0 ≤ nth (srt zs) k ∧ nth (srt zs) k < zs.length := fun k hk => by
    have hm : nth (srt zs) k ∈ zs := (srt_perm zs).mem_iff.1 (nth_mem (by omega))
    obtain ⟨j, hj, e⟩ := mem_nth hm
    rw [← e]
    exact h.bd j hj
  have hup : ∀ k, k + 1 < zs.length → nth (srt zs) k < nth (srt zs) (k + 1) := fun k hk => by
    have h1 := srt_mono (zs := zs) (i := k) (j := k + 1) (by omega) hk
    have h2 := hne k (k + 1) (by omega) (by omega)
    omega
  have hlo : ∀ k, k < zs.length → (k : Int) ≤ nth (srt zs) k := by
    intro k
    induction k with
    | zero => intro hk; exact (hbd 0 hk).1
    | succ k ih => intro hk; have := ih (by omega); have := hup k hk; omega
  have hhi : ∀ j k, k + 1 + j = zs.length → nth (srt zs) k ≤ (k : Int) := by
    intro j
    induction j with
    | zero => intro k hk; have := (hbd k (by omega)).2; omega
    | succ j ih => intro k hk; have := ih (k + 1) (by omega); have := hup k (by omega); omega
  intro k hk
  have := hlo k hk
  have := hhi (zs.length - 1 - k) k (by omega)
  omega
theorem inOrder_perm {zs : List Int} (h : inOrder zs) : Perm zs := by
  have hl := srt_len zs
  refine ⟨fun k hk => ?_, ?_⟩
  · have hm : nth zs k ∈ srt zs := (srt_perm zs).mem_iff.2 (nth_mem hk)
    obtain ⟨j, hj, e⟩ := mem_nth hm
    rw [← e, h j (by omega)]
    omega
  · refine ne_nodup ((srt_perm zs).nodup_iff.1 (nodup_ne fun i j hij hj => ?_))
    rw [h i (by omega), h j (by omega)]
    omega
theorem perm_iff (zs : List Int) : Perm zs ↔ inOrder zs := ⟨perm_inOrder, inOrder_perm⟩
end Go.Proofs.Ytainkgckahcdnaa
