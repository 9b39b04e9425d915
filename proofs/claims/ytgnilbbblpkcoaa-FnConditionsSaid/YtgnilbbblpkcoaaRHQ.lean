/- Canonical designs, plain: the neighbors of the blocks in the relabeled graph are the images of the blocks. No program in sight. -/
import Derived.Test.YtgnilbbblpkcoaaRHP
import Derived.Test.YtgnilbbblpkcoaaRGF
import Derived.Test.YtgnilbbblpkcoaaRJA
set_option linter.unusedVariables false
set_option linter.unusedSimpArgs false
namespace Go.Proofs.Ytgnilbbblpkcoaa
def srtR (l : List (List Int)) : List (List Int) := l.mergeSort fun x y => decide (cmpL x y ≤ 0)
theorem srtR_perm (l : List (List Int)) : (srtR l).Perm l := List.mergeSort_perm _ _
theorem srtR_sorted (l : List (List Int)) : SortedL cmpL (srtR l) := by
  have := List.pairwise_mergeSort (le := fun x y : List Int => decide (cmpL x y ≤ 0)) (fun a b c h1 h2 => by
    simp only [decide_eq_true_eq] at *
    exact cmpL_ord.trans h1 h2) (fun a b => by
    have := cmpL_ord.swap a b
    simp only [Bool.or_eq_true, decide_eq_true_eq]
    omega) l
  exact this.imp fun h => by simpa using h
theorem srtR_unique {l m : List (List Int)} (hp : m.Perm l) (hm : SortedL cmpL m) : m = srtR l :=
  (hp.trans (srtR_perm l).symm).eq_of_pairwise (fun a b _ _ h1 h2 => cmpL_ord.eq_of (by have := cmpL_ord.swap a b; omega)) hm (srtR_sorted l)
theorem srtR_len (l : List (List Int)) : (srtR l).length = l.length := (srtR_perm l).length_eq
end Go.Proofs.Ytgnilbbblpkcoaa
namespace Go.Proofs.Ytgnilbbblpkcoaa
open Go.RowKit
theorem ins_sorted {L : List (List Int)} {x : List Int} {k : Nat} (hs : SortedL cmpL L) (hk : k ≤ L.length) (h1 : k = 0 ∨ cmpL (row L (k - 1)) x ≤ 0) (h2 : ∀ i, k ≤ i → i < L.length → 0 < cmpL (row L i) x) : SortedL cmpL (L.take k ++ [x] ++ L.drop k) := by
  have a1 : ∀ a ∈ L.take k, cmpL a x ≤ 0 := fun a ha => by
    obtain ⟨i, hi, rfl⟩ := List.mem_iff_getElem.1 ha
    rw [List.length_take] at hi
    rw [List.getElem_take]
    rcases h1 with h1 | h1
    · omega
    · rw [row_get (by omega)] at h1
      by_cases e : i = k - 1
      · subst e; exact h1
      · exact cmpL_ord.trans (List.pairwise_iff_getElem.1 hs i (k - 1) (by omega) (by omega) (by omega)) h1
  have a2 : ∀ a ∈ L.drop k, cmpL x a ≤ 0 := fun a ha => by
    obtain ⟨i, hi, rfl⟩ := List.mem_iff_getElem.1 ha
    rw [List.length_drop] at hi
    rw [List.getElem_drop]
    have := h2 (k + i) (by omega) (by omega)
    rw [row_get (by omega)] at this
    have := cmpL_ord.swap L[k + i] x
    omega
  unfold SortedL
  rw [List.append_assoc, List.pairwise_append]
  refine ⟨hs.sublist (List.take_sublist _ _), List.pairwise_cons.2 ⟨a2, hs.sublist (List.drop_sublist _ _)⟩, fun a ha b hb => ?_⟩
  rcases List.mem_cons.1 hb with rfl | hb
  · exact a1 a ha
  · exact cmpL_ord.trans (a1 a ha) (a2 b hb)
theorem ins_perm {L M : List (List Int)} {x : List Int} (k : Nat) (hp : L.Perm M) : (L.take k ++ [x] ++ L.drop k).Perm (M ++ [x]) := by
  have h1 : (L.take k ++ [x] ++ L.drop k).Perm (x :: (L.take k ++ L.drop k)) := by
    rw [List.append_assoc]
    exact List.perm_middle
  rw [List.take_append_drop] at h1
  exact h1.trans ((List.Perm.cons x hp).trans (List.perm_append_singleton x M).symm)
theorem fresh_of {A A' : Option Addr} {g : Nat} {m : Nat} (hn : blk A' = blk (some (⟨g, 0, none⟩ : Addr)) ∨ blk A' = some m) (hm : g ≤ m) : ∀ b, blk A' = some b → g ≤ b := fun b hb => by
  rcases hn with h | h
  · rw [h] at hb; simp [blk] at hb; omega
  · rw [h] at hb; injection hb with hb; omega
theorem fresh_next {A A' : Option Addr} {g m : Nat} (h : ∀ b, blk A = some b → g ≤ b) (hn : blk A' = blk A ∨ ∃ k, blk A' = some k ∧ m ≤ k) (hm : g ≤ m) : ∀ b, blk A' = some b → g ≤ b := fun b hb => by
  rcases hn with h1 | ⟨k, h1, h2⟩
  · exact h b (h1 ▸ hb)
  · rw [h1] at hb; injection hb with hb; omega
section
variable {w w' : World} {B : Nat} {A : Option Addr} {n c : Nat} {vs : List Sl} {zss : List (List Int)}
theorem OB.take_cells {ad : Addr} (h : OB w B (some ad) n c vs zss) (k : Nat) : ∀ j v, (vs.take k)[j]? = some v → ∃ a, some ad = some a ∧ w.cell? (a.add j) = some (slv v) := fun j v hv => by
  rw [List.getElem?_take] at hv
  split at hv
  · exact h.os.cells j (slv v) (by rw [List.getElem?_map, hv]; rfl)
  · cases hv
theorem OB.drop_cells {ad : Addr} (h : OB w B (some ad) n c vs zss) (k : Nat) : ∀ j v, (vs.drop k)[j]? = some v → ∃ a, some (ad.add k) = some a ∧ w.cell? (a.add j) = some (slv v) := fun j v hv => by
  rw [List.getElem?_drop] at hv
  obtain ⟨a, e, hc⟩ := h.os.cells (k + j) (slv v) (by rw [List.getElem?_map, hv]; rfl)
  cases e
  exact ⟨_, rfl, by rw [add_add_]; exact hc⟩
theorem OB.ins {k : Nat} (h : OB w B A n c vs zss) (hk : k ≤ n) (hb : Below w.heap.size w w') {v : Sl} {z : List Int} (ho : OI w' B 2 v.1 v.2.1 v.2.2 z) {A' : Option Addr} {c' : Nat}
    (hos : OS w' B 32 1 A' (n + 1) c' ((vs.take k ++ [v] ++ vs.drop k).map slv)) : OB w' B A' (n + 1) c' (vs.take k ++ [v] ++ vs.drop k) (zss.take k ++ [z] ++ zss.drop k) := by
  obtain ⟨l1, l2⟩ := h.slen
  refine ⟨hos, by simp only [List.length_append, List.length_take, List.length_drop, List.length_singleton]; omega, fun j u y hu hy => ?_⟩
  rw [List.append_assoc, List.getElem?_append, List.length_take, l1, Nat.min_eq_left hk] at hu
  rw [List.append_assoc, List.getElem?_append, List.length_take, l2, Nat.min_eq_left hk] at hy
  split at hu
  · rename_i hj
    rw [if_pos hj] at hy
    rw [List.getElem?_take, if_pos hj] at hu hy
    exact (h.rows j u y hu hy).below hb
  · rename_i hj
    rw [if_neg hj] at hy
    by_cases e : j = k
    · subst e
      rw [Nat.sub_self] at hu hy
      simp at hu hy
      subst hu; subst hy
      exact ho
    · obtain ⟨d, rfl⟩ : ∃ d, j = k + 1 + d := ⟨j - k - 1, by omega⟩
      rw [show k + 1 + d - k = d + 1 by omega] at hu hy
      simp only [List.singleton_append, List.getElem?_cons_succ, List.getElem?_drop] at hu hy
      exact (h.rows (k + d) u y hu hy).below hb
end
set_option maxRecDepth 100000 in
set_option maxHeartbeats 4000000 in
theorem l10Sort_any (A : Option Addr) (n c : Nat) (zss : List (List Int)) (w : World) (ha : RR w A n zss) (hn : n ≤ 1048576) (hr : ∀ k, k < n → (row zss k).length ≤ 1048576) :
    Calls Try.prog 74 #[.slice A n c] w (fun e w' => ∃ A' c' vs, e = .returned (.slice A' n c') ∧ OB w' w.heap.size A' n c' vs (srtR zss) ∧ Below w.heap.size w w') := by
  have hla := Lib.hid ha.len
  have HR := Lib.hid hr
  clear hr
  have hb0 := below_alloc w (.cells #[] 32)
  have hL0 : OB (w.alloc (.cells #[] 32)) w.heap.size (some ⟨w.heap.size, 0, none⟩) 0 0 [] [] := ⟨OS.lit w w.heap.size 32 1 0 #[] (Nat.le_refl _) rfl (by omega), rfl, fun _ _ _ h => by simp at h⟩
  go_enter Try.func74, Try.ntmps74
  go_wp2
  go_loopw [3, 4, 5, 6] (fun o i _ _ wr => ∃ (j : Nat) (ad : Addr) (c' : Nat) (L : List (List Int)) (xs : List Sl), i = .int .i64 j ∧ j ≤ n ∧ o = .slice (some ad) j c' ∧ OB wr w.heap.size (some ad) j c' xs L ∧ L.Perm (zss.take j) ∧ SortedL cmpL L ∧ Below w.heap.size w wr) (fun _ i _ _ _ => n - (intOf i).toNat)
  case atStart => exact ⟨0, _, 0, [], [], rfl, Nat.zero_le _, rfl, hL0, by simp, List.Pairwise.nil, hb0⟩
  case round =>
    clear hL0 hb0
    obtain ⟨j, ad, c', L, xs, rfl, hj, rfl, hL, hp, hs, hw⟩ := hrel
    obtain ⟨hjc, hcc⟩ := hL.os.cap
    have HP := Lib.hid hp
    have HS := Lib.hid hs
    clear hp hs
    by_cases hlt : j < n
    · obtain ⟨a, A1, n1, c1, rfl, hca, hn1, hc1, hri⟩ := (ha.keep hw).get hlt
      have hlen := Lib.hid hL.slen.2
      have hxl := Lib.hid hL.slen.1
      have hrl := Lib.hid (HR.out j hlt)
      have hln := Lib.hid hri.len
      obtain ⟨wo, rfl⟩ : ∃ wo : World, wo = wr := ⟨_, rfl⟩
      go_wp2
      go_loopw [5] (fun t w2 => ∃ k : Nat, k ≤ j ∧ t = .int .i64 k ∧ Drawn wo w2 ∧ ∀ i, k ≤ i → i < j → 0 < cmpL (row L i) (row zss j)) (fun t _ => (intOf t).toNat)
      case atStart => exact ⟨j, Nat.le_refl _, rfl, Drawn.refl _, fun i h1 h2 => by omega⟩
      case round =>
        obtain ⟨k, hk, rfl, hd, hab⟩ := hrel
        have HA := Lib.hid hab
        clear hab
        have hdb := hd.below
        have hca' := below_cell hdb hca
        by_cases hP : 0 < k ∧ 0 < cmpL (row L (k - 1)) (row zss j)
        · obtain ⟨h0, h1⟩ := hP
          obtain ⟨a2, A2, n2, c2, e2, hcb, hn2, hc2, ha2⟩ := (hL.reads.keep hdb).get (show k - 1 < j by omega)
          cases e2
          have hcall : ∀ q, Calls Try.prog 47 #[.slice A2 n2 c2, .slice A1 n1 c1] (wr.drewN q) (Quiet (wr.drewN q) (.int .i64 (cmpL (row L (k - 1)) (row zss j)))) := fun q =>
            compareLists_any A2 A1 n2 n1 c2 c1 _ _ _ (ha2.drewN q) ((hri.keep hdb).drewN q) (by omega) (by omega)
          have HA2 := Lib.hid (fun (i : Nat) (h2 : k - 1 ≤ i) (h3 : i < j) => show 0 < cmpL (row L i) (row zss j) from by
            by_cases e : i = k - 1
            · rw [e]; exact h1
            · exact HA.out i (by omega) h3)
          have h1' : decide (0 < cmpL (row L (k - 1)) (row zss j)) = true := by simp; omega
          have e1 : IntKind.i64.wrap ((k : Int) - 1) = (k : Int) - 1 := IntWalk.i64_in _ (by omega)
          have e2 : ((k : Int) - 1).toNat = k - 1 := by omega
          have e3 : (0 : Int) ≤ (k : Int) - 1 := by omega
          have g2 : decide (0 < k) = true := by simp; omega
          go_wp2
          go_quiet ((go_at_call 47; exact Quiet.call (hcall _)))
          clear e1 e2
          go_wp2
          go_roundw
          case rel => exact ⟨k - 1, by omega, by go_num, hd.more _, HA2.out⟩
          case measure => simp [intOf]; omega
        · have hPd : k = 0 ∨ cmpL (row L (k - 1)) (row zss j) ≤ 0 := by
            by_cases h0 : k = 0
            · exact .inl h0
            · exact .inr (by
                by_cases h1 : 0 < cmpL (row L (k - 1)) (row zss j)
                · exact absurd ⟨by omega, h1⟩ hP
                · omega)
          clear hP
          have hPh := Lib.hid hPd
          by_cases h0 : k ≤ 0
          · have g1 : decide ((0 : Int) < (k : Int)) = false := by simp; omega
            have g2 : decide (0 < k) = false := by simp; omega
            clear hPd
            go_wp2
            go_quiet (fail)
            have hPd := hPh.out
            have hdb5 : Below wo.heap.size wo (wr.drewN nq) := (hd.more nq).below
            have hca5 := below_cell hdb5 hca
            clear g1 g2 h0 hPh
            generalize wr.drewN nq = W5 at *
            have hL5 := hL.below hdb5
            have hri5 := hri.keep hdb5
            have hw5 := hw.trans (hdb5.mono hw.size)
            have HSn := Lib.hid (ins_sorted (x := row zss j) HS.out (by rw [hlen.out]; exact hk) hPd (fun i h1 h2 => HA.out i h1 (by rw [hlen.out] at h2; exact h2)))
            have HPn := Lib.hid (show (L.take k ++ [row zss j] ++ L.drop k).Perm (zss.take (j + 1)) from by
              rw [take_row (by rw [hla.out]; exact hlt)]
              exact ins_perm k HP.out)
            have hlv : (xs.take k).length = k := by rw [List.length_take, hxl.out]; omega
            have hlu : (xs.drop k).length = j - k := by rw [List.length_drop, hxl.out]
            have hv2 := hL5.take_cells k
            have hu2 := hL5.drop_cells k
            have hal := below_alloc W5 (.cells #[] 32)
            have ho0 : OS (W5.alloc (.cells #[] 32)) w.heap.size 32 1 (some ⟨W5.heap.size, 0, none⟩) 0 0 (([] : List Sl).map slv) := OS.lit W5 w.heap.size 32 1 0 #[] hw5.size rfl (by omega)
            have HL5 := Lib.hid hL5
            have hn1' : n1 ≤ 1048576 := by have := hrl.out; have := hln.out; omega
            clear hPd hd hdb hL5 hca' hL hri hca hw hdb5
            by_cases hkc : k < c'
            · skip
              go_wp2_with (first
                | (at_builtin; refine app_sls _ rfl _ _ rfl w.heap.size _ 0 0 [] rfl ho0 (some ad) k c' (xs.take k) rfl hlv (fun i v hv => let ⟨a, b, c⟩ := hv2 i v hv; ⟨a, b, below_cell hal c⟩) (by omega) (by have := hw5.size; have := hal.size; omega) ?_; intro B1 d1 w1 ho1 hg1 hn1; rw [Nat.zero_add, List.nil_append] at ho1; have hw1 : Below W5.heap.size W5 w1 := hal.grown hg1 hal.size (fun b hb => by simp [blk] at hb; omega); have hca1 := below_cell hw1 hca5; simp only [Nat.zero_add])
                | (go_at_call 95; refine (l00Own_any A1 n1 c1 _ w1 (hri5.keep hw1) (by omega)).mono ?_; rintro e w2 ⟨X, p, q, rfl, hox0, hbx⟩; have hox := hox0.more (Nat.le_trans hw5.size hw1.size); have hf1 := fresh_of (A := B1) hn1 (by simp); have hw2 := hw1.trans (hbx.mono hw1.size); have ho2 := ho1.below hbx)
                | (at_builtin; refine app_sl _ rfl _ _ rfl w.heap.size B1 k d1 (xs.take k) rfl ho2 (X, p, q) _ rfl (by simp) (by omega) (Nat.le_trans hw5.size hw2.size) ?_; intro B3 d3 w3 ho3 hg3 hn3; have hw3 : Below W5.heap.size W5 w3 := hw2.grown hg3 hw2.size hf1; have hf3 := fresh_next hf1 hn3 hw2.size; have hx3 := hox.kept hg3 (OS.typed hox.os ho2 (by decide)))
                | (at_builtin; refine app_sls _ rfl _ _ rfl w.heap.size B3 (k + 1) d3 (xs.take k ++ [(X, p, q)]) rfl ho3 (some (ad.add k)) (j - k) (c' - k) (xs.drop k) rfl hlu (fun i v hv => let ⟨a, b, c⟩ := hu2 i v hv; ⟨a, b, below_cell hw3 c⟩) (by omega) (Nat.le_trans hw5.size hw3.size) ?_; intro B4 d4 w4 ho4 hg4 hn4; rw [show k + 1 + (j - k) = j + 1 by omega] at ho4 ⊢; have hw4 : Below W5.heap.size W5 w4 := hw3.grown hg4 hw3.size hf3; have hx4 := hx3.kept hg4 (OS.typed hx3.os ho3 (by decide))))
              obtain ⟨ad4, hB4⟩ : ∃ ad4, B4 = some ad4 := by
                obtain ⟨g, e, _⟩ := ho4.form (by omega)
                exact ⟨_, e⟩
              subst hB4
              have hL4 := HL5.out.ins (k := k) hk hw4 (v := (X, p, q)) hx4 ho4
              have hwe := hw5.trans (hw4.mono hw5.size)
              clear ho4 hg4 hn4 ho3 hg3 hn3 hw3 hw2 ho2 hox hox0 hbx hw1 ho1 hg1 hn1
              go_wp2
              go_roundw
              case rel => exact ⟨j + 1, ad4, d4, _, _, by go_num, by omega, rfl, hL4, HPn.out, HSn.out, hwe⟩
              case measure => simp [intOf]; omega
            · obtain rfl : k = j := by omega
              obtain rfl : k = c' := by omega
              have hus : xs.drop k = [] := List.eq_nil_of_length_eq_zero (by omega)
              go_wp2_with (first
                | (at_builtin; refine app_sls _ rfl _ _ rfl w.heap.size _ 0 0 [] rfl ho0 (some ad) k k (xs.take k) rfl hlv (fun i v hv => let ⟨a, b, c⟩ := hv2 i v hv; ⟨a, b, below_cell hal c⟩) (by omega) (by have := hw5.size; have := hal.size; omega) ?_; intro B1 d1 w1 ho1 hg1 hn1; rw [Nat.zero_add, List.nil_append] at ho1; have hw1 : Below W5.heap.size W5 w1 := hal.grown hg1 hal.size (fun b hb => by simp [blk] at hb; omega); have hca1 := below_cell hw1 hca5; simp only [Nat.zero_add])
                | (go_at_call 95; refine (l00Own_any A1 n1 c1 _ w1 (hri5.keep hw1) (by omega)).mono ?_; rintro e w2 ⟨X, p, q, rfl, hox0, hbx⟩; have hox := hox0.more (Nat.le_trans hw5.size hw1.size); have hf1 := fresh_of (A := B1) hn1 (by simp); have hw2 := hw1.trans (hbx.mono hw1.size); have ho2 := ho1.below hbx)
                | (at_builtin; refine app_sl _ rfl _ _ rfl w.heap.size B1 k d1 (xs.take k) rfl ho2 (X, p, q) _ rfl (by simp) (by omega) (Nat.le_trans hw5.size hw2.size) ?_; intro B3 d3 w3 ho3 hg3 hn3; have hw3 : Below W5.heap.size W5 w3 := hw2.grown hg3 hw2.size hf1; have hf3 := fresh_next hf1 hn3 hw2.size; have hx3 := hox.kept hg3 (OS.typed hox.os ho2 (by decide)))
                | (at_builtin; refine app_sls _ rfl _ _ rfl w.heap.size B3 (k + 1) d3 (xs.take k ++ [(X, p, q)]) rfl ho3 (some ad) 0 0 [] rfl rfl (fun i v hv => by simp at hv) (by omega) (Nat.le_trans hw5.size hw3.size) ?_; intro B4 d4 w4 ho4 hg4 hn4; rw [Nat.add_zero] at ho4 ⊢; have hw4 : Below W5.heap.size W5 w4 := hw3.grown hg4 hw3.size hf3; have hx4 := hx3.kept hg4 (OS.typed hx3.os ho3 (by decide))))
              obtain ⟨ad4, hB4⟩ : ∃ ad4, B4 = some ad4 := by
                obtain ⟨g, e, _⟩ := ho4.form (by omega)
                exact ⟨_, e⟩
              subst hB4
              have hL4 := HL5.out.ins (k := k) hk hw4 (v := (X, p, q)) hx4 (by rw [hus]; exact ho4)
              have hwe := hw5.trans (hw4.mono hw5.size)
              clear ho4 hg4 hn4 ho3 hg3 hn3 hw3 hw2 ho2 hox hox0 hbx hw1 ho1 hg1 hn1
              go_wp2
              go_roundw
              case rel => exact ⟨k + 1, ad4, d4, _, _, by go_num, by omega, rfl, hL4, HPn.out, HSn.out, hwe⟩
              case measure => simp [intOf]; omega
          · obtain ⟨a2, A2, n2, c2, e2, hcb, hn2, hc2, ha2⟩ := (hL.reads.keep hdb).get (show k - 1 < j by omega)
            cases e2
            have h1 : cmpL (row L (k - 1)) (row zss j) ≤ 0 := by
              rcases hPd with h | h
              · omega
              · exact h
            have hcall : ∀ q, Calls Try.prog 47 #[.slice A2 n2 c2, .slice A1 n1 c1] (wr.drewN q) (Quiet (wr.drewN q) (.int .i64 (cmpL (row L (k - 1)) (row zss j)))) := fun q =>
              compareLists_any A2 A1 n2 n1 c2 c1 _ _ _ (ha2.drewN q) ((hri.keep hdb).drewN q) (by omega) (by omega)
            have h1' : decide (0 < cmpL (row L (k - 1)) (row zss j)) = false := by simp; omega
            have e1 : IntKind.i64.wrap ((k : Int) - 1) = (k : Int) - 1 := IntWalk.i64_in _ (by omega)
            have e2 : ((k : Int) - 1).toNat = k - 1 := by omega
            have e3 : (0 : Int) ≤ (k : Int) - 1 := by omega
            have g2 : decide (0 < k) = true := by simp; omega
            have g1 : decide ((0 : Int) < (k : Int)) = true := by simp; omega
            clear hPd
            go_wp2
            go_quiet ((go_at_call 47; exact Quiet.call (hcall _)))
            have hPd := hPh.out
            have hdb5 : Below wo.heap.size wo (wr.drewN nq) := (hd.more nq).below
            have hca5 := below_cell hdb5 hca
            clear e1 e2 e3 g1 g2 h0 hPh hcall h1' h1 hcb ha2
            generalize wr.drewN nq = W5 at *
            have hL5 := hL.below hdb5
            have hri5 := hri.keep hdb5
            have hw5 := hw.trans (hdb5.mono hw.size)
            have HSn := Lib.hid (ins_sorted (x := row zss j) HS.out (by rw [hlen.out]; exact hk) hPd (fun i h1 h2 => HA.out i h1 (by rw [hlen.out] at h2; exact h2)))
            have HPn := Lib.hid (show (L.take k ++ [row zss j] ++ L.drop k).Perm (zss.take (j + 1)) from by
              rw [take_row (by rw [hla.out]; exact hlt)]
              exact ins_perm k HP.out)
            have hlv : (xs.take k).length = k := by rw [List.length_take, hxl.out]; omega
            have hlu : (xs.drop k).length = j - k := by rw [List.length_drop, hxl.out]
            have hv2 := hL5.take_cells k
            have hu2 := hL5.drop_cells k
            have hal := below_alloc W5 (.cells #[] 32)
            have ho0 : OS (W5.alloc (.cells #[] 32)) w.heap.size 32 1 (some ⟨W5.heap.size, 0, none⟩) 0 0 (([] : List Sl).map slv) := OS.lit W5 w.heap.size 32 1 0 #[] hw5.size rfl (by omega)
            have HL5 := Lib.hid hL5
            have hn1' : n1 ≤ 1048576 := by have := hrl.out; have := hln.out; omega
            clear hPd hd hdb hL5 hca' hL hri hca hw hdb5
            by_cases hkc : k < c'
            · skip
              go_wp2_with (first
                | (at_builtin; refine app_sls _ rfl _ _ rfl w.heap.size _ 0 0 [] rfl ho0 (some ad) k c' (xs.take k) rfl hlv (fun i v hv => let ⟨a, b, c⟩ := hv2 i v hv; ⟨a, b, below_cell hal c⟩) (by omega) (by have := hw5.size; have := hal.size; omega) ?_; intro B1 d1 w1 ho1 hg1 hn1; rw [Nat.zero_add, List.nil_append] at ho1; have hw1 : Below W5.heap.size W5 w1 := hal.grown hg1 hal.size (fun b hb => by simp [blk] at hb; omega); have hca1 := below_cell hw1 hca5; simp only [Nat.zero_add])
                | (go_at_call 95; refine (l00Own_any A1 n1 c1 _ w1 (hri5.keep hw1) (by omega)).mono ?_; rintro e w2 ⟨X, p, q, rfl, hox0, hbx⟩; have hox := hox0.more (Nat.le_trans hw5.size hw1.size); have hf1 := fresh_of (A := B1) hn1 (by simp); have hw2 := hw1.trans (hbx.mono hw1.size); have ho2 := ho1.below hbx)
                | (at_builtin; refine app_sl _ rfl _ _ rfl w.heap.size B1 k d1 (xs.take k) rfl ho2 (X, p, q) _ rfl (by simp) (by omega) (Nat.le_trans hw5.size hw2.size) ?_; intro B3 d3 w3 ho3 hg3 hn3; have hw3 : Below W5.heap.size W5 w3 := hw2.grown hg3 hw2.size hf1; have hf3 := fresh_next hf1 hn3 hw2.size; have hx3 := hox.kept hg3 (OS.typed hox.os ho2 (by decide)))
                | (at_builtin; refine app_sls _ rfl _ _ rfl w.heap.size B3 (k + 1) d3 (xs.take k ++ [(X, p, q)]) rfl ho3 (some (ad.add k)) (j - k) (c' - k) (xs.drop k) rfl hlu (fun i v hv => let ⟨a, b, c⟩ := hu2 i v hv; ⟨a, b, below_cell hw3 c⟩) (by omega) (Nat.le_trans hw5.size hw3.size) ?_; intro B4 d4 w4 ho4 hg4 hn4; rw [show k + 1 + (j - k) = j + 1 by omega] at ho4 ⊢; have hw4 : Below W5.heap.size W5 w4 := hw3.grown hg4 hw3.size hf3; have hx4 := hx3.kept hg4 (OS.typed hx3.os ho3 (by decide))))
              obtain ⟨ad4, hB4⟩ : ∃ ad4, B4 = some ad4 := by
                obtain ⟨g, e, _⟩ := ho4.form (by omega)
                exact ⟨_, e⟩
              subst hB4
              have hL4 := HL5.out.ins (k := k) hk hw4 (v := (X, p, q)) hx4 ho4
              have hwe := hw5.trans (hw4.mono hw5.size)
              clear ho4 hg4 hn4 ho3 hg3 hn3 hw3 hw2 ho2 hox hox0 hbx hw1 ho1 hg1 hn1
              go_wp2
              go_roundw
              case rel => exact ⟨j + 1, ad4, d4, _, _, by go_num, by omega, rfl, hL4, HPn.out, HSn.out, hwe⟩
              case measure => simp [intOf]; omega
            · obtain rfl : k = j := by omega
              obtain rfl : k = c' := by omega
              have hus : xs.drop k = [] := List.eq_nil_of_length_eq_zero (by omega)
              go_wp2_with (first
                | (at_builtin; refine app_sls _ rfl _ _ rfl w.heap.size _ 0 0 [] rfl ho0 (some ad) k k (xs.take k) rfl hlv (fun i v hv => let ⟨a, b, c⟩ := hv2 i v hv; ⟨a, b, below_cell hal c⟩) (by omega) (by have := hw5.size; have := hal.size; omega) ?_; intro B1 d1 w1 ho1 hg1 hn1; rw [Nat.zero_add, List.nil_append] at ho1; have hw1 : Below W5.heap.size W5 w1 := hal.grown hg1 hal.size (fun b hb => by simp [blk] at hb; omega); have hca1 := below_cell hw1 hca5; simp only [Nat.zero_add])
                | (go_at_call 95; refine (l00Own_any A1 n1 c1 _ w1 (hri5.keep hw1) (by omega)).mono ?_; rintro e w2 ⟨X, p, q, rfl, hox0, hbx⟩; have hox := hox0.more (Nat.le_trans hw5.size hw1.size); have hf1 := fresh_of (A := B1) hn1 (by simp); have hw2 := hw1.trans (hbx.mono hw1.size); have ho2 := ho1.below hbx)
                | (at_builtin; refine app_sl _ rfl _ _ rfl w.heap.size B1 k d1 (xs.take k) rfl ho2 (X, p, q) _ rfl (by simp) (by omega) (Nat.le_trans hw5.size hw2.size) ?_; intro B3 d3 w3 ho3 hg3 hn3; have hw3 : Below W5.heap.size W5 w3 := hw2.grown hg3 hw2.size hf1; have hf3 := fresh_next hf1 hn3 hw2.size; have hx3 := hox.kept hg3 (OS.typed hox.os ho2 (by decide)))
                | (at_builtin; refine app_sls _ rfl _ _ rfl w.heap.size B3 (k + 1) d3 (xs.take k ++ [(X, p, q)]) rfl ho3 (some ad) 0 0 [] rfl rfl (fun i v hv => by simp at hv) (by omega) (Nat.le_trans hw5.size hw3.size) ?_; intro B4 d4 w4 ho4 hg4 hn4; rw [Nat.add_zero] at ho4 ⊢; have hw4 : Below W5.heap.size W5 w4 := hw3.grown hg4 hw3.size hf3; have hx4 := hx3.kept hg4 (OS.typed hx3.os ho3 (by decide))))
              obtain ⟨ad4, hB4⟩ : ∃ ad4, B4 = some ad4 := by
                obtain ⟨g, e, _⟩ := ho4.form (by omega)
                exact ⟨_, e⟩
              subst hB4
              have hL4 := HL5.out.ins (k := k) hk hw4 (v := (X, p, q)) hx4 (by rw [hus]; exact ho4)
              have hwe := hw5.trans (hw4.mono hw5.size)
              clear ho4 hg4 hn4 ho3 hg3 hn3 hw3 hw2 ho2 hox hox0 hbx hw1 ho1 hg1 hn1
              go_wp2
              go_roundw
              case rel => exact ⟨k + 1, ad4, d4, _, _, by go_num, by omega, rfl, hL4, HPn.out, HSn.out, hwe⟩
              case measure => simp [intOf]; omega
    · obtain rfl : j = n := by omega
      have HE := Lib.hid (show L = srtR zss from srtR_unique (by have := HP.out; rwa [← hla.out, List.take_length] at this) HS.out)
      go_wp2
      go_ret
      exact ⟨_, _, _, rfl, by rw [← HE.out]; exact hL, hw⟩
end Go.Proofs.Ytgnilbbblpkcoaa
