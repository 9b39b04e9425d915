/- The search of one design, both sides, whatever the design and the budget. No condition beyond those stated. -/
import Derived.Test.YtdkbcjdimhgmnaaGreatRHN
import Derived.Test.YtdkbcjdimhgmnaaGreatRHA
set_option linter.unusedVariables false
set_option linter.unusedSimpArgs false
namespace Go.Proofs.YtdkbcjdimhgmnaaGreat
open Go.RowKit
end Go.Proofs.YtdkbcjdimhgmnaaGreat
namespace Go.Proofs.YtdkbcjdimhgmnaaGreat
def UpL (c d : List Int) : Prop := d.length = c.length ∧ ∀ u v, u < c.length → v < c.length → nth c u < nth c v → nth d u < nth d v
theorem up_low {v m : Nat} {p : List Int} (h : UpL (dsC v m) p) (hp : Perm p) {u : Nat} (hu : u < v) : nth p u < (v : Int) := by
  have hl : p.length = v + m := by rw [h.1, dsC_len]
  by_cases hc : nth p u < (v : Int)
  · exact hc
  · exfalso
    have hub := hp.bd u (by omega)
    have hgt : ∀ j, j < m → nth p u < nth p (v + j) := fun j hj => h.2 u (v + j) (by rw [dsC_len]; omega) (by rw [dsC_len]; omega) (by
      have e1 : nth (dsC v m) u = 0 := by
        rw [nth_get (by rw [dsC_len]; omega)]
        unfold dsC
        rw [List.getElem_append_left (by simpa using hu), List.getElem_replicate]
      have e2 : nth (dsC v m) (v + j) = 1 := by
        rw [nth_get (by rw [dsC_len]; omega)]
        unfold dsC
        rw [List.getElem_append_right (by simp), List.getElem_replicate]
      omega)
    have hnd : ((List.range (m + 1)).map fun j => if j = m then nth p u else nth p (v + j)).Nodup := by
      rw [List.Nodup, List.pairwise_map]
      refine List.pairwise_lt_range.imp_of_mem fun {i j} hi hj hij => ?_
      have hi := List.mem_range.1 hi
      have hj := List.mem_range.1 hj
      rw [if_neg (by omega)]
      by_cases hjm : j = m
      · rw [if_pos hjm]
        have := hgt i (by omega)
        omega
      · rw [if_neg hjm]
        exact hp.ne (v + i) (v + j) (by omega) (by omega)
    have hsub : ((List.range (m + 1)).map fun j => if j = m then nth p u else nth p (v + j)) ⊆ ((List.range m).map fun (j : Nat) => ((v + j : Nat) : Int)) := by
      intro x hx
      obtain ⟨j, hj, rfl⟩ := List.mem_map.1 hx
      have hj := List.mem_range.1 hj
      have key : ∀ x : Int, (v : Int) ≤ x → x < ((v + m : Nat) : Int) → x ∈ ((List.range m).map fun (j : Nat) => ((v + j : Nat) : Int)) := fun x h1 h2 => List.mem_map.2 ⟨(x - v).toNat, List.mem_range.2 (by omega), by omega⟩
      by_cases hjm : j = m
      · simp only [hjm, if_true]
        exact key _ (by omega) (by omega)
      · simp only [hjm, if_false]
        have h1 := hgt j (by omega)
        have h2 := hp.bd (v + j) (by omega)
        exact key _ (by omega) (by omega)
    have := List.Nodup.length_le_of_subset hnd hsub
    simp only [List.length_map, List.length_range] at this
    omega
theorem nth_takeL {p : List Int} {v k : Nat} (h : k < v) : nth (p.take v) k = nth p k := by
  unfold nth
  simp [List.getD, List.getElem?_take, h]
theorem up_perm {v m : Nat} {p : List Int} (h : UpL (dsC v m) p) (hp : Perm p) : (p.take v).length = v ∧ Perm (p.take v) := by
  have hl : p.length = v + m := by rw [h.1, dsC_len]
  have hlt : (p.take v).length = v := by rw [List.length_take]; omega
  refine ⟨hlt, fun k hk => ?_, fun i j hij hj => ?_⟩
  · rw [hlt] at hk ⊢
    rw [nth_takeL hk]
    exact ⟨(hp.bd k (by omega)).1, up_low h hp hk⟩
  · rw [hlt] at hj
    rw [nth_takeL (by omega), nth_takeL hj]
    exact hp.ne i j hij (by omega)
end Go.Proofs.YtdkbcjdimhgmnaaGreat
namespace Go.Proofs.YtdkbcjdimhgmnaaGreat
open Go.RowKit
section
variable {ops : Array Oper} {rest : List Oper} {o : Oper} {a : Act} {Q : Exit → Act → World → Prop}
theorem app_sls (w : World) (hgd : o.guard = none) (s x : Operand) (ho : o.op = .call { callee := .builtin .append, args := #[s, x], argTypes := #[25, 25] })
    (B : Nat) (A : Option Addr) (n c : Nat) (vs : List Sl) (hs : a.eval s = .slice A n c) (hown : OS w B 22 1 A n c (vs.map slv))
    (A2 : Option Addr) (m c2 : Nat) (us : List Sl) (hx : a.eval x = .slice A2 m c2) (hl : us.length = m) (hu : ∀ j v, us[j]? = some v → ∃ ad, A2 = some ad ∧ w.cell? (ad.add j) = some (slv v)) (hbig : n + m ≤ 2199023255552) (hB : B ≤ w.heap.size)
    (h : ∀ A' c' w', OS w' B 22 1 A' (n + m) c' ((vs ++ us).map slv) → w.grownBy w' (blk A) → (blk A' = blk A ∨ blk A' = some w.heap.size) → wpList Tryz.prog ops Q rest (a.put o.dst (.slice A' (n + m) c')) w') :
    wpList Tryz.prog ops Q (o :: rest) a w :=
  wpList_app w hgd s x 25 ho 22 (.slice none 0 0) 1 24 Tryz.underlying25 ints_info rfl (by omega) (by omega) B A n c (vs.map slv) hs hown A2 m c2 (us.map slv) hx (by simp [hl])
    (fun j u hj => by
      rw [List.getElem?_map] at hj
      cases e : us[j]? with
      | none => rw [e] at hj; cases hj
      | some v =>
        rw [e] at hj
        simp only [Option.map_some, Option.some.injEq] at hj
        subst hj
        exact hu j v e)
    (fun u hu => by obtain ⟨v, -, rfl⟩ := List.mem_map.1 hu; rfl) hbig hB
    fun A' c' w' h1 h2 h3 => h A' c' w' (by rw [List.map_append]; exact h1) h2 h3
end
theorem add_add_ (ad : Addr) (k j : Nat) : (ad.add k).add j = ad.add (k + j) := by
  unfold Addr.add
  by_cases hk : k = 0
  · subst hk; simp
  · by_cases hj : j = 0
    · subst hj; simp
    · simp [hk, hj, Nat.add_assoc]
theorem RR.drop_ {w : World} {ad : Addr} {n : Nat} {zss : List (List Int)} (h : RR w (some ad) n zss) {k : Nat} (hk : k ≤ n) : RR w (some (ad.add k)) (n - k) (zss.drop k) := by
  refine ⟨by rw [List.length_drop, h.len], fun j z hz => ?_⟩
  rw [List.getElem?_drop] at hz
  obtain ⟨ad', v, ha, hc, r⟩ := h.2 (k + j) z hz
  cases ha
  exact ⟨ad.add k, v, rfl, by rw [add_add_ ad k j]; exact hc, r⟩
end Go.Proofs.YtdkbcjdimhgmnaaGreat
