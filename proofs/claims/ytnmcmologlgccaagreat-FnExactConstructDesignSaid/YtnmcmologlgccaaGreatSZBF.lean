/- spec.l10Sort and spec.l04Image. No condition beyond those stated. -/
import Derived.Test.YtnmcmologlgccaaGreatSZBE
set_option linter.unusedVariables false
set_option linter.unusedSimpArgs false
namespace Go.Proofs.YtnmcmologlgccaaGreat
open Go.RowKit
theorem ins_sorted {L : List (List Int)} {x : List Int} {k : Nat} (hs : SortedL cmpL L) (hk : k ≤ L.length) (h1 : k = 0 ∨ cmpL (row L (k - 1)) x ≤ 0) (h2 : ∀ i, k ≤ i → i < L.length → 0 < cmpL (row L i) x) : SortedL cmpL (L.take k ++ [x] ++ L.drop k) := by
  have a1 : ∀ a ∈ L.take k, cmpL a x ≤ 0 := fun a ha => by
    obtain ⟨i, hi, rfl⟩ := List.mem_iff_getElem.1 ha
    rw [List.length_take] at hi
    rw [List.getElem_take]
    rcases h1 with h1 | h1
    · omega
    · rw [row_get (by omega)] at h1
      by_cases e : i = k - 1
      · subst e; exact h1
      · exact cmpL_ord.trans (List.pairwise_iff_getElem.1 hs i (k - 1) (by omega) (by omega) (by omega)) h1
  have a2 : ∀ a ∈ L.drop k, cmpL x a ≤ 0 := fun a ha => by
    obtain ⟨i, hi, rfl⟩ := List.mem_iff_getElem.1 ha
    rw [List.length_drop] at hi
    rw [List.getElem_drop]
    have := h2 (k + i) (by omega) (by omega)
    rw [row_get (by omega)] at this
    have := cmpL_ord.swap L[k + i] x
    omega
  unfold SortedL
  rw [List.append_assoc, List.pairwise_append]
  refine ⟨hs.sublist (List.take_sublist _ _), List.pairwise_cons.2 ⟨a2, hs.sublist (List.drop_sublist _ _)⟩, fun a ha b hb => ?_⟩
  rcases List.mem_cons.1 hb with rfl | hb
  · exact a1 a ha
  · exact cmpL_ord.trans (a1 a ha) (a2 b hb)
theorem ins_perm {L M : List (List Int)} {x : List Int} (k : Nat) (hp : L.Perm M) : (L.take k ++ [x] ++ L.drop k).Perm (M ++ [x]) := by
  have h1 : (L.take k ++ [x] ++ L.drop k).Perm (x :: (L.take k ++ L.drop k)) := by
    rw [List.append_assoc]
    exact List.perm_middle
  rw [List.take_append_drop] at h1
  exact h1.trans ((List.Perm.cons x hp).trans (List.perm_append_singleton x M).symm)
theorem fresh_of {A A' : Option Addr} {g : Nat} {m : Nat} (hn : blk A' = blk (some (⟨g, 0, none⟩ : Addr)) ∨ blk A' = some m) (hm : g ≤ m) : ∀ b, blk A' = some b → g ≤ b := fun b hb => by
  rcases hn with h | h
  · rw [h] at hb; simp [blk] at hb; omega
  · rw [h] at hb; injection hb with hb; omega
theorem fresh_next {A A' : Option Addr} {g m : Nat} (h : ∀ b, blk A = some b → g ≤ b) (hn : blk A' = blk A ∨ ∃ k, blk A' = some k ∧ m ≤ k) (hm : g ≤ m) : ∀ b, blk A' = some b → g ≤ b := fun b hb => by
  rcases hn with h1 | ⟨k, h1, h2⟩
  · exact h b (h1 ▸ hb)
  · rw [h1] at hb; injection hb with hb; omega
section
variable {w w' : World} {B : Nat} {A : Option Addr} {n c : Nat} {vs : List Sl} {zss : List (List Int)}
theorem OB.take_cells {ad : Addr} (h : OB w B (some ad) n c vs zss) (k : Nat) : ∀ j v, (vs.take k)[j]? = some v → ∃ a, some ad = some a ∧ w.cell? (a.add j) = some (slv v) := fun j v hv => by
  rw [List.getElem?_take] at hv
  split at hv
  · exact h.os.cells j (slv v) (by rw [List.getElem?_map, hv]; rfl)
  · cases hv
theorem OB.drop_cells {ad : Addr} (h : OB w B (some ad) n c vs zss) (k : Nat) : ∀ j v, (vs.drop k)[j]? = some v → ∃ a, some (ad.add k) = some a ∧ w.cell? (a.add j) = some (slv v) := fun j v hv => by
  rw [List.getElem?_drop] at hv
  obtain ⟨a, e, hc⟩ := h.os.cells (k + j) (slv v) (by rw [List.getElem?_map, hv]; rfl)
  cases e
  exact ⟨_, rfl, by rw [add_addH]; exact hc⟩
theorem OB.ins {k : Nat} (h : OB w B A n c vs zss) (hk : k ≤ n) (hb : Below w.heap.size w w') {v : Sl} {z : List Int} (ho : OI w' B 2 v.1 v.2.1 v.2.2 z) {A' : Option Addr} {c' : Nat}
    (hos : OS w' B 36 1 A' (n + 1) c' ((vs.take k ++ [v] ++ vs.drop k).map slv)) : OB w' B A' (n + 1) c' (vs.take k ++ [v] ++ vs.drop k) (zss.take k ++ [z] ++ zss.drop k) := by
  obtain ⟨l1, l2⟩ := h.slen
  refine ⟨hos, by simp only [List.length_append, List.length_take, List.length_drop, List.length_singleton]; omega, fun j u y hu hy => ?_⟩
  rw [List.append_assoc, List.getElem?_append, List.length_take, l1, Nat.min_eq_left hk] at hu
  rw [List.append_assoc, List.getElem?_append, List.length_take, l2, Nat.min_eq_left hk] at hy
  split at hu
  · rename_i hj
    rw [if_pos hj] at hy
    rw [List.getElem?_take, if_pos hj] at hu hy
    exact (h.rows j u y hu hy).below hb
  · rename_i hj
    rw [if_neg hj] at hy
    by_cases e : j = k
    · subst e
      rw [Nat.sub_self] at hu hy
      simp at hu hy
      subst hu; subst hy
      exact ho
    · obtain ⟨d, rfl⟩ : ∃ d, j = k + 1 + d := ⟨j - k - 1, by omega⟩
      rw [show k + 1 + d - k = d + 1 by omega] at hu hy
      simp only [List.singleton_append, List.getElem?_cons_succ, List.getElem?_drop] at hu hy
      exact (h.rows (k + d) u y hu hy).below hb
end
set_option maxRecDepth 100000 in
set_option maxHeartbeats 4000000 in
theorem l10Sort_any (A : Option Addr) (n c : Nat) (zss : List (List Int)) (w : World) (ha : RR w A n zss) (hn : n ≤ 1048576) (hr : ∀ k, k < n → (row zss k).length ≤ 1048576) :
    Calls Tryz.prog 136 #[.slice A n c] w (fun e w' => ∃ A' c' vs, e = .returned (.slice A' n c') ∧ OB w' w.heap.size A' n c' vs (srtR zss) ∧ Below w.heap.size w w') := by
  have hla := Lib.hid ha.len
  have HR := Lib.hid hr
  clear hr
  have hb0 := below_alloc w (.cells #[] 36)
  have hL0 : OB (w.alloc (.cells #[] 36)) w.heap.size (some ⟨w.heap.size, 0, none⟩) 0 0 [] [] := ⟨OS.lit w w.heap.size 36 1 0 #[] (Nat.le_refl _) rfl (by omega), rfl, fun _ _ _ h => by simp at h⟩
  go_enter Tryz.func136, Tryz.ntmps136
  go_wp2
  go_loopw [3, 4, 5, 6] (fun o i _ _ wr => ∃ (j : Nat) (ad : Addr) (c' : Nat) (L : List (List Int)) (xs : List Sl), i = .int .i64 j ∧ j ≤ n ∧ o = .slice (some ad) j c' ∧ OB wr w.heap.size (some ad) j c' xs L ∧ L.Perm (zss.take j) ∧ SortedL cmpL L ∧ Below w.heap.size w wr) (fun _ i _ _ _ => n - (intOf i).toNat)
  case atStart => exact ⟨0, _, 0, [], [], rfl, Nat.zero_le _, rfl, hL0, by simp, List.Pairwise.nil, hb0⟩
  case round =>
    clear hL0 hb0
    obtain ⟨j, ad, c', L, xs, rfl, hj, rfl, hL, hp, hs, hw⟩ := hrel
    obtain ⟨hjc, hcc⟩ := hL.os.cap
    have HP := Lib.hid hp
    have HS := Lib.hid hs
    clear hp hs
    by_cases hlt : j < n
    · obtain ⟨a, A1, n1, c1, rfl, hca, hn1, hc1, hri⟩ := (ha.keep hw).get hlt
      have hlen := Lib.hid hL.slen.2
      have hxl := Lib.hid hL.slen.1
      have hrl := Lib.hid (HR.out j hlt)
      have hln := Lib.hid hri.len
      obtain ⟨wo, rfl⟩ : ∃ wo : World, wo = wr := ⟨_, rfl⟩
      go_wp2
      go_loopw [5] (fun t w2 => ∃ k : Nat, k ≤ j ∧ t = .int .i64 k ∧ Drawn wo w2 ∧ ∀ i, k ≤ i → i < j → 0 < cmpL (row L i) (row zss j)) (fun t _ => (intOf t).toNat)
      case atStart => exact ⟨j, Nat.le_refl _, rfl, Drawn.refl _, fun i h1 h2 => by omega⟩
      case round =>
        obtain ⟨k, hk, rfl, hd, hab⟩ := hrel
        have HA := Lib.hid hab
        clear hab
        have hdb := hd.below
        have hca' := below_cell hdb hca
        by_cases hP : 0 < k ∧ 0 < cmpL (row L (k - 1)) (row zss j)
        · obtain ⟨h0, h1⟩ := hP
          obtain ⟨a2, A2, n2, c2, e2, hcb, hn2, hc2, ha2⟩ := (hL.reads.keep hdb).get (show k - 1 < j by omega)
          cases e2
          have hcall : ∀ q, Calls Tryz.prog 134 #[.slice A2 n2 c2, .slice A1 n1 c1] (wr.drewN q) (Quiet (wr.drewN q) (.int .i64 (cmpL (row L (k - 1)) (row zss j)))) := fun q =>
            compareLists_any A2 A1 n2 n1 c2 c1 _ _ _ (ha2.drewN q) ((hri.keep hdb).drewN q) (by omega) (by omega)
          have HA2 := Lib.hid (fun (i : Nat) (h2 : k - 1 ≤ i) (h3 : i < j) => show 0 < cmpL (row L i) (row zss j) from by
            by_cases e : i = k - 1
            · rw [e]; exact h1
            · exact HA.out i (by omega) h3)
          have h1' : decide (0 < cmpL (row L (k - 1)) (row zss j)) = true := by simp; omega
          have e1 : IntKind.i64.wrap ((k : Int) - 1) = (k : Int) - 1 := IntWalk.i64_in _ (by omega)
          have e2 : ((k : Int) - 1).toNat = k - 1 := by omega
          have e3 : (0 : Int) ≤ (k : Int) - 1 := by omega
          have g2 : decide (0 < k) = true := by simp; omega
          go_wp2
          go_quiet ((go_at_call 134; exact Quiet.call (hcall _)))
          clear e1 e2
          go_wp2
          go_roundw
          case rel => exact ⟨k - 1, by omega, by go_num, hd.more _, HA2.out⟩
          case measure => simp [intOf]; omega
        · have hPd : k = 0 ∨ cmpL (row L (k - 1)) (row zss j) ≤ 0 := by
            by_cases h0 : k = 0
            · exact .inl h0
            · exact .inr (by
                by_cases h1 : 0 < cmpL (row L (k - 1)) (row zss j)
                · exact absurd ⟨by omega, h1⟩ hP
                · omega)
          clear hP
          have hPh := Lib.hid hPd
          by_cases h0 : k ≤ 0
          · have g1 : decide ((0 : Int) < (k : Int)) = false := by simp; omega
            have g2 : decide (0 < k) = false := by simp; omega
            clear hPd
            go_wp2
            go_quiet (fail)
            have hPd := hPh.out
            have hdb5 : Below wo.heap.size wo (wr.drewN nq) := (hd.more nq).below
            have hca5 := below_cell hdb5 hca
            clear g1 g2 h0 hPh
            generalize wr.drewN nq = W5 at *
            have hL5 := hL.below hdb5
            have hri5 := hri.keep hdb5
            have hw5 := hw.trans (hdb5.mono hw.size)
            have HSn := Lib.hid (ins_sorted (x := row zss j) HS.out (by rw [hlen.out]; exact hk) hPd (fun i h1 h2 => HA.out i h1 (by rw [hlen.out] at h2; exact h2)))
            have HPn := Lib.hid (show (L.take k ++ [row zss j] ++ L.drop k).Perm (zss.take (j + 1)) from by
              rw [take_row (by rw [hla.out]; exact hlt)]
              exact ins_perm k HP.out)
            have hlv : (xs.take k).length = k := by rw [List.length_take, hxl.out]; omega
            have hlu : (xs.drop k).length = j - k := by rw [List.length_drop, hxl.out]
            have hv2 := hL5.take_cells k
            have hu2 := hL5.drop_cells k
            have hal := below_alloc W5 (.cells #[] 36)
            have ho0 : OS (W5.alloc (.cells #[] 36)) w.heap.size 36 1 (some ⟨W5.heap.size, 0, none⟩) 0 0 (([] : List Sl).map slv) := OS.lit W5 w.heap.size 36 1 0 #[] hw5.size rfl (by omega)
            have HL5 := Lib.hid hL5
            have hn1' : n1 ≤ 1048576 := by have := hrl.out; have := hln.out; omega
            clear hPd hd hdb hL5 hca' hL hri hca hw hdb5
            by_cases hkc : k < c'
            · skip
              go_wp2_with (first
                | (at_builtin; refine app_sls _ rfl _ _ rfl w.heap.size _ 0 0 [] rfl ho0 (some ad) k c' (xs.take k) rfl hlv (fun i v hv => let ⟨a, b, c⟩ := hv2 i v hv; ⟨a, b, below_cell hal c⟩) (by omega) (by have := hw5.size; have := hal.size; omega) ?_; intro B1 d1 w1 ho1 hg1 hn1; rw [Nat.zero_add, List.nil_append] at ho1; have hw1 : Below W5.heap.size W5 w1 := hal.grown hg1 hal.size (fun b hb => by simp [blk] at hb; omega); have hca1 := below_cell hw1 hca5; simp only [Nat.zero_add])
                | (go_at_call 33; refine (l00Own_any A1 n1 c1 _ w1 (hri5.keep hw1) (by omega)).mono ?_; rintro e w2 ⟨X, p, q, rfl, hox0, hbx⟩; have hox := hox0.more (Nat.le_trans hw5.size hw1.size); have hf1 := fresh_of (A := B1) hn1 (by simp); have hw2 := hw1.trans (hbx.mono hw1.size); have ho2 := ho1.below hbx)
                | (at_builtin; refine app_sl _ rfl _ _ rfl w.heap.size B1 k d1 (xs.take k) rfl ho2 (X, p, q) _ rfl (by simp) (by omega) (Nat.le_trans hw5.size hw2.size) ?_; intro B3 d3 w3 ho3 hg3 hn3; have hw3 : Below W5.heap.size W5 w3 := hw2.grown hg3 hw2.size hf1; have hf3 := fresh_next hf1 hn3 hw2.size; have hx3 := hox.kept hg3 (OS.typed hox.os ho2 (by decide)))
                | (at_builtin; refine app_sls _ rfl _ _ rfl w.heap.size B3 (k + 1) d3 (xs.take k ++ [(X, p, q)]) rfl ho3 (some (ad.add k)) (j - k) (c' - k) (xs.drop k) rfl hlu (fun i v hv => let ⟨a, b, c⟩ := hu2 i v hv; ⟨a, b, below_cell hw3 c⟩) (by omega) (Nat.le_trans hw5.size hw3.size) ?_; intro B4 d4 w4 ho4 hg4 hn4; rw [show k + 1 + (j - k) = j + 1 by omega] at ho4 ⊢; have hw4 : Below W5.heap.size W5 w4 := hw3.grown hg4 hw3.size hf3; have hx4 := hx3.kept hg4 (OS.typed hx3.os ho3 (by decide))))
              obtain ⟨ad4, hB4⟩ : ∃ ad4, B4 = some ad4 := by
                obtain ⟨g, e, _⟩ := ho4.form (by omega)
                exact ⟨_, e⟩
              subst hB4
              have hL4 := HL5.out.ins (k := k) hk hw4 (v := (X, p, q)) hx4 ho4
              have hwe := hw5.trans (hw4.mono hw5.size)
              clear ho4 hg4 hn4 ho3 hg3 hn3 hw3 hw2 ho2 hox hox0 hbx hw1 ho1 hg1 hn1
              go_wp2
              go_roundw
              case rel => exact ⟨j + 1, ad4, d4, _, _, by go_num, by omega, rfl, hL4, HPn.out, HSn.out, hwe⟩
              case measure => simp [intOf]; omega
            · obtain rfl : k = j := by omega
              obtain rfl : k = c' := by omega
              have hus : xs.drop k = [] := List.eq_nil_of_length_eq_zero (by omega)
              go_wp2_with (first
                | (at_builtin; refine app_sls _ rfl _ _ rfl w.heap.size _ 0 0 [] rfl ho0 (some ad) k k (xs.take k) rfl hlv (fun i v hv => let ⟨a, b, c⟩ := hv2 i v hv; ⟨a, b, below_cell hal c⟩) (by omega) (by have := hw5.size; have := hal.size; omega) ?_; intro B1 d1 w1 ho1 hg1 hn1; rw [Nat.zero_add, List.nil_append] at ho1; have hw1 : Below W5.heap.size W5 w1 := hal.grown hg1 hal.size (fun b hb => by simp [blk] at hb; omega); have hca1 := below_cell hw1 hca5; simp only [Nat.zero_add])
                | (go_at_call 33; refine (l00Own_any A1 n1 c1 _ w1 (hri5.keep hw1) (by omega)).mono ?_; rintro e w2 ⟨X, p, q, rfl, hox0, hbx⟩; have hox := hox0.more (Nat.le_trans hw5.size hw1.size); have hf1 := fresh_of (A := B1) hn1 (by simp); have hw2 := hw1.trans (hbx.mono hw1.size); have ho2 := ho1.below hbx)
                | (at_builtin; refine app_sl _ rfl _ _ rfl w.heap.size B1 k d1 (xs.take k) rfl ho2 (X, p, q) _ rfl (by simp) (by omega) (Nat.le_trans hw5.size hw2.size) ?_; intro B3 d3 w3 ho3 hg3 hn3; have hw3 : Below W5.heap.size W5 w3 := hw2.grown hg3 hw2.size hf1; have hf3 := fresh_next hf1 hn3 hw2.size; have hx3 := hox.kept hg3 (OS.typed hox.os ho2 (by decide)))
                | (at_builtin; refine app_sls _ rfl _ _ rfl w.heap.size B3 (k + 1) d3 (xs.take k ++ [(X, p, q)]) rfl ho3 (some ad) 0 0 [] rfl rfl (fun i v hv => by simp at hv) (by omega) (Nat.le_trans hw5.size hw3.size) ?_; intro B4 d4 w4 ho4 hg4 hn4; rw [Nat.add_zero] at ho4 ⊢; have hw4 : Below W5.heap.size W5 w4 := hw3.grown hg4 hw3.size hf3; have hx4 := hx3.kept hg4 (OS.typed hx3.os ho3 (by decide))))
              obtain ⟨ad4, hB4⟩ : ∃ ad4, B4 = some ad4 := by
                obtain ⟨g, e, _⟩ := ho4.form (by omega)
                exact ⟨_, e⟩
              subst hB4
              have hL4 := HL5.out.ins (k := k) hk hw4 (v := (X, p, q)) hx4 (by rw [hus]; exact ho4)
              have hwe := hw5.trans (hw4.mono hw5.size)
              clear ho4 hg4 hn4 ho3 hg3 hn3 hw3 hw2 ho2 hox hox0 hbx hw1 ho1 hg1 hn1
              go_wp2
              go_roundw
              case rel => exact ⟨k + 1, ad4, d4, _, _, by go_num, by omega, rfl, hL4, HPn.out, HSn.out, hwe⟩
              case measure => simp [intOf]; omega
          · obtain ⟨a2, A2, n2, c2, e2, hcb, hn2, hc2, ha2⟩ := (hL.reads.keep hdb).get (show k - 1 < j by omega)
            cases e2
            have h1 : cmpL (row L (k - 1)) (row zss j) ≤ 0 := by
              rcases hPd with h | h
              · omega
              · exact h
            have hcall : ∀ q, Calls Tryz.prog 134 #[.slice A2 n2 c2, .slice A1 n1 c1] (wr.drewN q) (Quiet (wr.drewN q) (.int .i64 (cmpL (row L (k - 1)) (row zss j)))) := fun q =>
              compareLists_any A2 A1 n2 n1 c2 c1 _ _ _ (ha2.drewN q) ((hri.keep hdb).drewN q) (by omega) (by omega)
            have h1' : decide (0 < cmpL (row L (k - 1)) (row zss j)) = false := by simp; omega
            have e1 : IntKind.i64.wrap ((k : Int) - 1) = (k : Int) - 1 := IntWalk.i64_in _ (by omega)
            have e2 : ((k : Int) - 1).toNat = k - 1 := by omega
            have e3 : (0 : Int) ≤ (k : Int) - 1 := by omega
            have g2 : decide (0 < k) = true := by simp; omega
            have g1 : decide ((0 : Int) < (k : Int)) = true := by simp; omega
            clear hPd
            go_wp2
            go_quiet ((go_at_call 134; exact Quiet.call (hcall _)))
            have hPd := hPh.out
            have hdb5 : Below wo.heap.size wo (wr.drewN nq) := (hd.more nq).below
            have hca5 := below_cell hdb5 hca
            clear e1 e2 e3 g1 g2 h0 hPh hcall h1' h1 hcb ha2
            generalize wr.drewN nq = W5 at *
            have hL5 := hL.below hdb5
            have hri5 := hri.keep hdb5
            have hw5 := hw.trans (hdb5.mono hw.size)
            have HSn := Lib.hid (ins_sorted (x := row zss j) HS.out (by rw [hlen.out]; exact hk) hPd (fun i h1 h2 => HA.out i h1 (by rw [hlen.out] at h2; exact h2)))
            have HPn := Lib.hid (show (L.take k ++ [row zss j] ++ L.drop k).Perm (zss.take (j + 1)) from by
              rw [take_row (by rw [hla.out]; exact hlt)]
              exact ins_perm k HP.out)
            have hlv : (xs.take k).length = k := by rw [List.length_take, hxl.out]; omega
            have hlu : (xs.drop k).length = j - k := by rw [List.length_drop, hxl.out]
            have hv2 := hL5.take_cells k
            have hu2 := hL5.drop_cells k
            have hal := below_alloc W5 (.cells #[] 36)
            have ho0 : OS (W5.alloc (.cells #[] 36)) w.heap.size 36 1 (some ⟨W5.heap.size, 0, none⟩) 0 0 (([] : List Sl).map slv) := OS.lit W5 w.heap.size 36 1 0 #[] hw5.size rfl (by omega)
            have HL5 := Lib.hid hL5
            have hn1' : n1 ≤ 1048576 := by have := hrl.out; have := hln.out; omega
            clear hPd hd hdb hL5 hca' hL hri hca hw hdb5
            by_cases hkc : k < c'
            · skip
              go_wp2_with (first
                | (at_builtin; refine app_sls _ rfl _ _ rfl w.heap.size _ 0 0 [] rfl ho0 (some ad) k c' (xs.take k) rfl hlv (fun i v hv => let ⟨a, b, c⟩ := hv2 i v hv; ⟨a, b, below_cell hal c⟩) (by omega) (by have := hw5.size; have := hal.size; omega) ?_; intro B1 d1 w1 ho1 hg1 hn1; rw [Nat.zero_add, List.nil_append] at ho1; have hw1 : Below W5.heap.size W5 w1 := hal.grown hg1 hal.size (fun b hb => by simp [blk] at hb; omega); have hca1 := below_cell hw1 hca5; simp only [Nat.zero_add])
                | (go_at_call 33; refine (l00Own_any A1 n1 c1 _ w1 (hri5.keep hw1) (by omega)).mono ?_; rintro e w2 ⟨X, p, q, rfl, hox0, hbx⟩; have hox := hox0.more (Nat.le_trans hw5.size hw1.size); have hf1 := fresh_of (A := B1) hn1 (by simp); have hw2 := hw1.trans (hbx.mono hw1.size); have ho2 := ho1.below hbx)
                | (at_builtin; refine app_sl _ rfl _ _ rfl w.heap.size B1 k d1 (xs.take k) rfl ho2 (X, p, q) _ rfl (by simp) (by omega) (Nat.le_trans hw5.size hw2.size) ?_; intro B3 d3 w3 ho3 hg3 hn3; have hw3 : Below W5.heap.size W5 w3 := hw2.grown hg3 hw2.size hf1; have hf3 := fresh_next hf1 hn3 hw2.size; have hx3 := hox.kept hg3 (OS.typed hox.os ho2 (by decide)))
                | (at_builtin; refine app_sls _ rfl _ _ rfl w.heap.size B3 (k + 1) d3 (xs.take k ++ [(X, p, q)]) rfl ho3 (some (ad.add k)) (j - k) (c' - k) (xs.drop k) rfl hlu (fun i v hv => let ⟨a, b, c⟩ := hu2 i v hv; ⟨a, b, below_cell hw3 c⟩) (by omega) (Nat.le_trans hw5.size hw3.size) ?_; intro B4 d4 w4 ho4 hg4 hn4; rw [show k + 1 + (j - k) = j + 1 by omega] at ho4 ⊢; have hw4 : Below W5.heap.size W5 w4 := hw3.grown hg4 hw3.size hf3; have hx4 := hx3.kept hg4 (OS.typed hx3.os ho3 (by decide))))
              obtain ⟨ad4, hB4⟩ : ∃ ad4, B4 = some ad4 := by
                obtain ⟨g, e, _⟩ := ho4.form (by omega)
                exact ⟨_, e⟩
              subst hB4
              have hL4 := HL5.out.ins (k := k) hk hw4 (v := (X, p, q)) hx4 ho4
              have hwe := hw5.trans (hw4.mono hw5.size)
              clear ho4 hg4 hn4 ho3 hg3 hn3 hw3 hw2 ho2 hox hox0 hbx hw1 ho1 hg1 hn1
              go_wp2
              go_roundw
              case rel => exact ⟨j + 1, ad4, d4, _, _, by go_num, by omega, rfl, hL4, HPn.out, HSn.out, hwe⟩
              case measure => simp [intOf]; omega
            · obtain rfl : k = j := by omega
              obtain rfl : k = c' := by omega
              have hus : xs.drop k = [] := List.eq_nil_of_length_eq_zero (by omega)
              go_wp2_with (first
                | (at_builtin; refine app_sls _ rfl _ _ rfl w.heap.size _ 0 0 [] rfl ho0 (some ad) k k (xs.take k) rfl hlv (fun i v hv => let ⟨a, b, c⟩ := hv2 i v hv; ⟨a, b, below_cell hal c⟩) (by omega) (by have := hw5.size; have := hal.size; omega) ?_; intro B1 d1 w1 ho1 hg1 hn1; rw [Nat.zero_add, List.nil_append] at ho1; have hw1 : Below W5.heap.size W5 w1 := hal.grown hg1 hal.size (fun b hb => by simp [blk] at hb; omega); have hca1 := below_cell hw1 hca5; simp only [Nat.zero_add])
                | (go_at_call 33; refine (l00Own_any A1 n1 c1 _ w1 (hri5.keep hw1) (by omega)).mono ?_; rintro e w2 ⟨X, p, q, rfl, hox0, hbx⟩; have hox := hox0.more (Nat.le_trans hw5.size hw1.size); have hf1 := fresh_of (A := B1) hn1 (by simp); have hw2 := hw1.trans (hbx.mono hw1.size); have ho2 := ho1.below hbx)
                | (at_builtin; refine app_sl _ rfl _ _ rfl w.heap.size B1 k d1 (xs.take k) rfl ho2 (X, p, q) _ rfl (by simp) (by omega) (Nat.le_trans hw5.size hw2.size) ?_; intro B3 d3 w3 ho3 hg3 hn3; have hw3 : Below W5.heap.size W5 w3 := hw2.grown hg3 hw2.size hf1; have hf3 := fresh_next hf1 hn3 hw2.size; have hx3 := hox.kept hg3 (OS.typed hox.os ho2 (by decide)))
                | (at_builtin; refine app_sls _ rfl _ _ rfl w.heap.size B3 (k + 1) d3 (xs.take k ++ [(X, p, q)]) rfl ho3 (some ad) 0 0 [] rfl rfl (fun i v hv => by simp at hv) (by omega) (Nat.le_trans hw5.size hw3.size) ?_; intro B4 d4 w4 ho4 hg4 hn4; rw [Nat.add_zero] at ho4 ⊢; have hw4 : Below W5.heap.size W5 w4 := hw3.grown hg4 hw3.size hf3; have hx4 := hx3.kept hg4 (OS.typed hx3.os ho3 (by decide))))
              obtain ⟨ad4, hB4⟩ : ∃ ad4, B4 = some ad4 := by
                obtain ⟨g, e, _⟩ := ho4.form (by omega)
                exact ⟨_, e⟩
              subst hB4
              have hL4 := HL5.out.ins (k := k) hk hw4 (v := (X, p, q)) hx4 (by rw [hus]; exact ho4)
              have hwe := hw5.trans (hw4.mono hw5.size)
              clear ho4 hg4 hn4 ho3 hg3 hn3 hw3 hw2 ho2 hox hox0 hbx hw1 ho1 hg1 hn1
              go_wp2
              go_roundw
              case rel => exact ⟨k + 1, ad4, d4, _, _, by go_num, by omega, rfl, hL4, HPn.out, HSn.out, hwe⟩
              case measure => simp [intOf]; omega
    · obtain rfl : j = n := by omega
      have HE := Lib.hid (show L = srtR zss from srtR_unique (by have := HP.out; rwa [← hla.out, List.take_length] at this) HS.out)
      go_wp2
      go_ret
      exact ⟨_, _, _, rfl, by rw [← HE.out]; exact hL, hw⟩
def RetW (w : World) (v : Int) (bs : List (List Int)) (code : Int) (e : Ending) (w' : World) : Prop := ∃ A n c, e = .returned (.tuple #[.agg #[.int .i64 v, .slice A n c], .int .i64 code]) ∧ (∃ vs, OB w' w.heap.size A n c vs bs) ∧ Below w.heap.size w w'
set_option maxRecDepth 100000 in
set_option maxHeartbeats 4000000 in
theorem l10Make_ok (v : Int) (A : Option Addr) (n c : Nat) (L : List (List Int)) (w : World) (ha : RR w A n L) (hn : n ≤ 128) (v1 : 1 ≤ v) (v2 : v ≤ 32) (hB : ∀ i, i < n → Block (row L i) v) :
    Calls Tryz.prog 86 #[.int .i64 v, .slice A n c] w (RetW w v (srtR L) 0) := by
  have hb0 := below_alloc w (.cells #[.int .i64 0, .slice none 0 0] 28)
  have Y := Blk.new w 28 #[.int .i64 0, .slice none 0 0]
  have hz0 : (w.alloc (.cells #[.int .i64 0, .slice none 0 0] 28)).heap.size = w.heap.size + 1 := by simp
  have HB := Lib.hid hB
  have HL : Hid (∀ k, k < n → (row L k).length ≤ 1048576) := Lib.hid (fun k hk => by
    have := rises_len ((hB k hk).2.wide (show v - 1 ≤ 32 - 1 by omega))
    omega)
  clear hB
  go_enter Tryz.func86, Tryz.ntmps86
  go_wp2
  generalize w.alloc (.cells #[.int .i64 0, .slice none 0 0] 28) = W0 at *
  go_loopw [6] (fun iv wr => ∃ i : Nat, i ≤ n ∧ iv = .int .i64 i ∧ Below (w.heap.size + 1) W0 wr) (fun iv _ => n - (intOf iv).toNat)
  case atStart => exact ⟨0, Nat.zero_le _, rfl, Below.refl _ _⟩
  case round =>
    obtain ⟨i, hi, rfl, hb⟩ := hrel
    have hwr := hb0.trans (hb.mono (by omega))
    have hbz := hb.size
    by_cases hli : i < n
    · obtain ⟨ad, S, sn, sc, rfl, cs, hm1, hm2, hri⟩ := (ha.keep hwr).get hli
      have hbl := l10Block_any S sn sc (row L i) v wr hri (by omega) v1 (by omega)
      rw [tB_yes (HB.out i hli)] at hbl
      go_wp2_with fail
      refine hbl.mono ?_
      rintro e w' ⟨rfl, hd⟩
      have hb7 := hb.trans (hd.below.mono (by omega))
      clear hbl hd hri
      go_wp2
      go_round
      case rel => exact ⟨i + 1, by omega, by go_num, hb7⟩
      case measure => simp only [intOf]; omega
    · obtain rfl : i = n := by omega
      have hso := l10Sort_any A i c L wr (ha.keep hwr) (by omega) HL.out
      have Y1 := Y.below hb (by omega)
      go_wp2_with fail
      refine hso.mono ?_
      rintro e w5 ⟨A5, c5, vs, rfl, ho5, hb5⟩
      have hcap := ho5.os.cap
      have Y6 := Y1.after hb5
      have hw5 := hwr.trans (hb5.mono hwr.size)
      obtain ⟨y0, y1⟩ := Y6.cells2
      have f0 := Y6.frozen 0
      have f1 := Y6.frozen 1
      have YF := (Y6.set_ 0 (.int .i64 v)).set_ 1 (.slice A5 i c5)
      have hsl := hwr.size
      have hoF := ((ho5.setLow (p := ⟨w.heap.size, 0, none⟩) (by show w.heap.size < wr.heap.size; omega) (.int .i64 v)).setLow (p := ⟨w.heap.size, 1, none⟩) (by show w.heap.size < wr.heap.size; omega) (.slice A5 i c5)).more (show w.heap.size ≤ wr.heap.size by omega)
      have hwF := (hw5.setCell (p := ⟨w.heap.size, 0, none⟩) (by simp) (.int .i64 v)).setCell (p := ⟨w.heap.size, 1, none⟩) (by simp) (.slice A5 i c5)
      have q2 := YF.cell 0
      have q3 := YF.cell 1
      have Q := Lib.hid (And.intro hoF hwF)
      clear hso hoF hwF YF Y6 Y1 ho5 hb5
      go_wp2
      exact bodyPost_ret (v := .tuple #[.agg #[.int .i64 v, .slice A5 i c5], .int .i64 0]) (by simp [results, Tryz.results86, go_sem, q2, q3]) rfl ⟨A5, i, c5, rfl, ⟨_, Q.out.1⟩, Q.out.2⟩
theorem ORv.lit0H {w : World} {B : Nat} (hB : B ≤ w.heap.size) : ORv (w.alloc (.cells #[] 36)) B 36 2 (some ⟨w.heap.size, 0, none⟩) 0 0 [] [] :=
  ⟨OS.lit w B 36 1 0 #[] hB rfl (by omega), rfl, fun j u y hu => by simp at hu, fun i j u x hij hu => by simp at hu, by decide⟩
theorem cmlB_row {v : Nat} {bs : List (List Int)} {i : Nat} (h : i < bs.length) : row (cmlB v bs) i = minK (iotaP v) (row bs i) 32 := by
  simp [row, cmlB, List.getD, h]
set_option maxRecDepth 100000 in
set_option maxHeartbeats 4000000 in
theorem specComplement_any (v : Nat) (A : Option Addr) (n c : Nat) (bs : List (List Int)) (w : World) (ha : RR w A n bs) (hD : Design v bs) (hC : ∀ j, j < n → Block (minS (iotaP v) (row bs j)) v) :
    Calls Tryz.prog 53 #[.agg #[.int .i64 v, .slice A n c]] w (RetW w v (srtR (cmlB v bs)) 0) := by
  have hb0 := (below_alloc w (.cells #[.int .i64 v, .slice A n c] 28)).alloc (by simp) (.cells #[.int .i64 0, .slice none 0 0] 28)
  have X := (Blk.new w 28 #[.int .i64 v, .slice A n c]).alloc (.cells #[.int .i64 0, .slice none 0 0] 28)
  have Y := Blk.new (w.alloc (.cells #[.int .i64 v, .slice A n c] 28)) 28 #[.int .i64 0, .slice none 0 0]
  rw [show (w.alloc (.cells #[.int .i64 v, .slice A n c] 28)).heap.size = w.heap.size + 1 by simp] at Y
  have hz0 : ((w.alloc (.cells #[.int .i64 v, .slice A n c] 28)).alloc (.cells #[.int .i64 0, .slice none 0 0] 28)).heap.size = w.heap.size + 1 + 1 := by simp
  have hv1 := hD.v1
  have hv2 := hD.v2
  have hnl := ha.len
  have hn128 := hD.len
  have hvd := l10Ok_any w.heap.size v A n c bs ((w.alloc (.cells #[.int .i64 v, .slice A n c] 28)).alloc (.cells #[.int .i64 0, .slice none 0 0] 28)) X (ha.keep hb0) (by omega)
  rw [tB_yes hD] at hvd
  have HBK := Lib.hid (fun j (hj : j < n) => (hD.blk j (by omega)).2.wide (show (v : Int) - 1 ≤ 31 by omega))
  have HC := Lib.hid hC
  have hcl := cmlB_len v bs
  clear hD hC
  go_enter Tryz.func53, Tryz.ntmps53
  go_wp2_with fail
  generalize (w.alloc (.cells #[.int .i64 v, .slice A n c] 28)).alloc (.cells #[.int .i64 0, .slice none 0 0] 28) = W0 at *
  refine hvd.mono ?_
  rintro e w1 ⟨rfl, hd1⟩
  have hb1 := hd1.below
  have X1 := X.after hb1
  have Y1 := Y.after hb1
  have hw1 := hb0.trans (hb1.mono hb0.size)
  have hz1 : w.heap.size + 1 + 1 ≤ w1.heap.size := by have := hb1.size; omega
  clear hvd X Y hb0 hb1 hz0 hd1
  have hb2 := below_alloc w1 (.cells #[] 36)
  have ho2 := ORv.lit0H (w := w1) (B := w1.heap.size) (Nat.le_refl _)
  have hn1 : n ≤ 128 := by omega
  clear hnl hn128
  go_wp2
  generalize w1.alloc (.cells #[] 36) = W2 at *
  obtain ⟨D, hD⟩ : ∃ D, D = w1.heap.size := ⟨_, rfl⟩
  rw [← hD] at ho2 hb2 hz1
  have HDD := Lib.hid (fun (W : World) (h : Below D w1 W) => show Below w1.heap.size w1 W from hD ▸ h)
  go_loopw [4, 5] (fun lv jv wr => ∃ (j : Nat) (B : Option Addr) (bc : Nat), j ≤ n ∧ jv = .int .i64 j ∧ lv = .slice B j bc ∧ OR wr D 36 2 B j bc (cmlB v (bs.take j)) ∧ Below D w1 wr) (fun _ jv _ => n - (intOf jv).toNat)
  case atStart => exact ⟨0, some ⟨D, 0, none⟩, 0, Nat.zero_le _, rfl, by rw [hD], ⟨_, ho2⟩, hb2⟩
  case round =>
    clear ho2 hb2
    obtain ⟨j, B, bc, hj, rfl, rfl, ho, hb⟩ := hrel
    have hwr := hw1.trans (hb.mono (by omega))
    have X2 := X1.after (HDD.out wr hb)
    obtain ⟨x0, x1⟩ := X2.cells2
    have hbs := hb.size
    by_cases hlt : j < n
    · obtain ⟨ad, S, sn, sc, rfl, cs, hm1, hm2, hri⟩ := (ha.keep hwr).get hlt
      have hBR := HBK.out j hlt
      have hblk := HC.out j hlt
      have hsn : sn ≤ 32 := by
        have := rises_len (hBR.wide (show (31 : Int) ≤ 32 - 1 by omega))
        have := hri.len
        omega
      have hir := (iotaP_rises (v := v) (by omega)).wide (show (32 - 1 : Int) ≤ 31 by omega)
      have hdr : Below wr.heap.size wr wr.drew := by have := below_drewn wr 1; rwa [← World.drew_is_drewN] at this
      have HMS := Lib.hid (fun (w3 : World) (P : Option Addr) (pn pc : Nat) (hb3 : Below wr.heap.size wr w3) (hop : RI w3 P pn (iotaP v)) => specMinus_any P S pn pc sn sc (iotaP v) (row bs j) w3 hop (hri.keep hb3) (by have := hop.len; rw [iotaP_len] at this; omega) (by omega) hir hBR)
      have HAL := Lib.hid (fun (W : World) => l10All_any v W (by omega))
      go_wp2
      refine region_sufX (P := Tryz.prog) (n := 8) (i := 5) (v := .int .i64 (j : Int)) (S := fun w' => w'.cell? ⟨w.heap.size, 0, none⟩ = some (.int .i64 (v : Int)) ∧ w'.cell? ⟨w.heap.size, 1, none⟩ = some (.slice (some ad) n c) ∧ w'.cell? (ad.add j) = some (.slice S sn sc) ∧ Below wr.heap.size wr w') (by kernel_rfl) (by simp only [List.take_succ_cons, List.take_zero]; rfl) (by simp only [List.drop_succ_cons, List.drop_zero]; rfl) (by kernel_rfl) rfl (by decide) (by kernel_rfl) (by kernel_rfl) (by kernel_rfl) (by kernel_rfl) (fun _ _ _ h => h) (Or.inl ⟨by rfl, ?_⟩) ⟨below_cell hdr x0, below_cell hdr x1, below_cell hdr cs, hdr⟩ ?_
      · intro w5
        go_simp
      intro hS
      simp only [Act.put, List.setIfInBounds_toArray, List.set_cons_zero, List.set_cons_succ]
      generalize wr.drew = W5 at *
      clear hdr
      refine wpAnyH_take (i := 0) (v := ?_) rfl (by kernel_rfl) (by kernel_rfl) (by kernel_rfl) (fun _ _ _ h => h) (Or.inl ⟨by rfl, ?_⟩) (by assumption) ?_
      rotate_left
      · (intro w hSw; (try dsimp only at hSw); go_simp; (try with_reducible rfl))
      simp only [Act.put, List.setIfInBounds_toArray, List.set_cons_zero, List.set_cons_succ]
      refine wpAnyH_take (i := 1) (v := ?_) rfl (by kernel_rfl) (by kernel_rfl) (by kernel_rfl) (fun _ _ _ h => h) (Or.inl ⟨by rfl, ?_⟩) (by assumption) ?_
      rotate_left
      · (intro w hSw; (try dsimp only at hSw); go_simp; (try with_reducible rfl))
      simp only [Act.put, List.setIfInBounds_toArray, List.set_cons_zero, List.set_cons_succ]
      refine wpAnyH_take (i := 3) (v := ?_) rfl (by kernel_rfl) (by kernel_rfl) (by kernel_rfl) (fun _ _ _ h => h) (Or.inl ⟨by rfl, ?_⟩) (by assumption) ?_
      rotate_left
      · (intro w hSw; (try dsimp only at hSw); go_simp; (try with_reducible rfl))
      simp only [Act.put, List.setIfInBounds_toArray, List.set_cons_zero, List.set_cons_succ]
      refine wpAnyH_take (i := 4) (v := ?_) rfl (by kernel_rfl) (by kernel_rfl) (by kernel_rfl) (fun _ _ _ h => h) (Or.inl ⟨by rfl, ?_⟩) (by assumption) ?_
      rotate_left
      · (intro w hSw; (try dsimp only at hSw); go_simp; (try with_reducible rfl))
      simp only [Act.put, List.setIfInBounds_toArray, List.set_cons_zero, List.set_cons_succ]
      refine wpAnyH_take (i := 6) (v := ?_) rfl (by kernel_rfl) (by kernel_rfl) (by kernel_rfl) (fun _ _ _ h => h) (Or.inl ⟨by rfl, ?_⟩) (by assumption) ?_
      rotate_left
      · (intro w hSw; (try dsimp only at hSw); go_simp; (try with_reducible rfl))
      simp only [Act.put, List.setIfInBounds_toArray, List.set_cons_zero, List.set_cons_succ]
      refine wpAnyH_take (i := 7) (v := ?_) rfl (by kernel_rfl) (by kernel_rfl) (by kernel_rfl) (fun _ _ _ h => h) (Or.inl ⟨by rfl, ?_⟩) (by assumption) ?_
      rotate_left
      · (intro w hSw; (try dsimp only at hSw); go_simp; (try with_reducible rfl))
      simp only [Act.put, List.setIfInBounds_toArray, List.set_cons_zero, List.set_cons_succ]
      simp only [List.getElem_toArray, List.getElem_cons_succ, List.getElem_cons_zero]
      refine wpAnyH_ready (rs := [2]) (by kernel_rfl) (by simp) ?_
      refine AllReadyH.cons rfl (fun K hK => ?_) AllReadyH.nil
      go_simp
      refine (HAL.out _).mono ?_
      rintro e w6 ⟨P, pn, pc, rfl, hop, hb6⟩
      dsimp only
      refine hK.out _ _ ⟨below_cell hb6 hS.1, below_cell hb6 hS.2.1, below_cell hb6 hS.2.2.1, hS.2.2.2.trans (hb6.mono hS.2.2.2.size)⟩ (fun hS2 => ?_)
      clear hK K
      try simp only [List.getElem_toArray, List.getElem_cons_succ, List.getElem_cons_zero, Act.put, List.setIfInBounds_toArray, List.set_cons_zero, List.set_cons_succ]
      refine wpAnyH_done (by kernel_rfl) ?_ _
      dsimp only [atEnd]
      have hms := HMS.out w6 P pn pc (hS.2.2.2.trans (hb6.mono hS.2.2.2.size)) hop.reads
      have hb76 := hS.2.2.2.trans (hb6.mono hS.2.2.2.size)
      have hs6 := hb76.size
      have HST := Lib.hid (show cmlB v (bs.take (j + 1)) = cmlB v (bs.take j) ++ [minS (iotaP v) (row bs j)] by rw [cmlB_take (by rw [ha.len]; exact hlt), minK_minS (by omega)])
      obtain ⟨vs, hov⟩ := ho
      have hpos : 0 < (minS (iotaP v) (row bs j)).length := hblk.1
      generalize minS (iotaP v) (row bs j) = mj at *
      clear hS hS2 hb6 hop hri HMS HAL hblk
      go_wp2_with fail
      refine hms.mono ?_
      rintro e w7 ⟨R, rn, rc, rfl, hor, hb7⟩
      have hb77 := hb76.trans (hb7.mono hs6)
      have hrl := hor.len
      have hrn : ((rn : Int) == 0) = false := by simp; omega
      have hap := hov.apart_new (v := (R, rn, rc)) (fun b hb => Nat.le_trans hs6 (hor.os.lt hb).1)
      have hov5 := hov.below hb77
      have hor5 := hor.more (show D ≤ w6.heap.size by omega)
      have hbw := hb.trans (hb77.mono (by omega))
      have hD5 : D ≤ w7.heap.size := by have := hb7.size; omega
      clear hms hov hor hb7 hb76 hb77 x0 x1 cs
      go_wp2_with (at_builtin; refine app_row _ rfl _ _ rfl D B j bc vs _ rfl hov5 (R, rn, rc) mj hor5 hap _ rfl rfl (by omega) hD5 ?_; intro A7 c7 w8 ho7 hg7 hn7; have hb8 := below_own hbw hg7 hD5 (fun b hb => (hov5.os.lt hb).1))
      go_round
      case rel => exact ⟨j + 1, A7, c7, by omega, by go_num, rfl, ⟨_, by rw [HST.out]; exact ho7⟩, hb8⟩
      case measure => simp only [intOf]; omega
    · obtain rfl : j = n := by omega
      have hnl := ha.len
      rw [List.take_of_length_le (by omega)] at ho
      have hCr : ∀ i, i < j → Block (row (cmlB v bs) i) v := fun i hi => by
        have h1 := HC.out i hi
        rw [cmlB_row (by omega), minK_minS (by omega)]
        exact h1
      have hmk := l10Make_ok (v : Int) B j bc (cmlB v bs) wr (OR.reads ho) hn1 hv1 hv2 hCr
      have Y5 := Y1.after (HDD.out wr hb)
      clear hnl hcl hCr ho
      generalize srtR (cmlB v bs) = L at *
      go_wp2_with fail
      refine hmk.mono ?_
      rintro e w5 ⟨A5, n5, c5, rfl, ⟨vs5, ho5⟩, hb5⟩
      have Y6 := Y5.after hb5
      have hw5 := hwr.trans (hb5.mono hwr.size)
      obtain ⟨y0, y1⟩ := Y6.cells2
      have f0 := Y6.frozen 0
      have f1 := Y6.frozen 1
      have YF := (Y6.set_ 0 (.int .i64 v)).set_ 1 (.slice A5 n5 c5)
      have hsl := hwr.size
      have hoF := ((ho5.setLow (p := ⟨w.heap.size + 1, 0, none⟩) (by show w.heap.size + 1 < wr.heap.size; omega) (.int .i64 v)).setLow (p := ⟨w.heap.size + 1, 1, none⟩) (by show w.heap.size + 1 < wr.heap.size; omega) (.slice A5 n5 c5)).more (show w.heap.size ≤ wr.heap.size by omega)
      have hwF := (hw5.setCell (p := ⟨w.heap.size + 1, 0, none⟩) (by simp) (.int .i64 v)).setCell (p := ⟨w.heap.size + 1, 1, none⟩) (by simp) (.slice A5 n5 c5)
      have q2 := YF.cell 0
      have q3 := YF.cell 1
      have Q := Lib.hid (And.intro hoF hwF)
      clear hmk hoF hwF YF Y6 Y5 ho5 hb5
      go_wp2
      exact bodyPost_ret (v := .tuple #[.agg #[.int .i64 (v : Int), .slice A5 n5 c5], .int .i64 0]) (by simp [results, Tryz.results53, go_sem, q2, q3]) rfl ⟨A5, n5, c5, rfl, ⟨_, Q.out.1⟩, Q.out.2⟩
def verS (q m : Nat) : List (List Int) := ((List.range q).drop m).map (lineV q)
theorem verS_step {q m : Nat} (h : m < q) : verS q m = lineV q m :: verS q (m + 1) := by unfold verS; rw [rdropK h, List.map_cons]
theorem verS_end (q : Nat) : verS q q = [] := by unfold verS; rw [rdropK_end (Nat.le_refl _)]; rfl
def sloS (q : Nat) (p : Int) (k : Nat) (f : List Int) (m : Nat) : List (List Int) := ((List.range q).drop m).flatMap fun m => affB q p k f m 0
theorem sloS_step {q : Nat} {p : Int} {k : Nat} {f : List Int} {m : Nat} (h : m < q) : sloS q p k f m = affB q p k f m 0 ++ sloS q p k f (m + 1) := by unfold sloS; rw [rdropK h, List.flatMap_cons]
theorem sloS_end (q : Nat) (p : Int) (k : Nat) (f : List Int) : sloS q p k f q = [] := by unfold sloS; rw [rdropK_end (Nat.le_refl _)]; rfl
def affS (q : Nat) (p : Int) (k : Nat) (f : List Int) : List (List Int) := verS q 0 ++ sloS q p k f 0
theorem aff_same : ([2, 3, 4, 5].all fun q => decide (isortR (affS q (qP q) (qK q) (qF q)) = isortR (affQ q))) = true := by decide +kernel
theorem affS_srt {q : Nat} (h2 : 2 ≤ q) (h5 : q ≤ 5) : srtR (affS q (qP q) (qK q) (qF q)) = srtR (affQ q) := by
  have hq : q ∈ [2, 3, 4, 5] := by
    have : q = 2 ∨ q = 3 ∨ q = 4 ∨ q = 5 := by omega
    rcases this with rfl | rfl | rfl | rfl <;> decide
  have := List.all_eq_true.1 aff_same q hq
  rw [srtR_isort, srtR_isort]
  exact of_decide_eq_true this
end Go.Proofs.YtnmcmologlgccaaGreat
