/- spec.l05Put on rows of a call's own: the new list lies in a new block. No condition beyond those stated. -/
import Derived.Test.YtdkbcjdimhgmnaaGreatRHQ
import Derived.Test.YtdkbcjdimhgmnaaGreatRIE
set_option linter.unusedVariables false
set_option linter.unusedSimpArgs false
namespace Go.Proofs.YtdkbcjdimhgmnaaGreat
open Go.RowKit
set_option maxRecDepth 100000 in
set_option maxHeartbeats 2000000 in
theorem l05Put_new (B : Nat) (ad : Addr) (n c k : Nat) (xs : List Sl) (zss : List (List Int)) (X : Option Addr) (p q : Nat) (x : List Int) (w : World) (ha : OB w B (some ad) n c xs zss) (hk : k ≤ n) (hn : n ≤ 1048576) (hx : OI w B 2 X p q x) (hB : B ≤ w.heap.size) :
    Calls Tryz.prog 243 #[.slice (some ad) n c, .int .i64 k, .slice X p q] w (fun e w' => ∃ A' c' vs, e = .returned (.slice A' (n + 1) c') ∧ OB w' B A' (n + 1) c' vs (zss.take k ++ [x] ++ zss.drop k) ∧ Below w.heap.size w w' ∧ ∀ b, blk A' = some b → w.heap.size ≤ b) := by
  obtain ⟨hnc, hcc⟩ := ha.os.cap
  obtain ⟨l1, l2⟩ := ha.slen
  have HA := Lib.hid ha
  have hal := below_alloc w (.cells #[] 22)
  have ho0 : OS (w.alloc (.cells #[] 22)) B 22 1 (some ⟨w.heap.size, 0, none⟩) 0 0 (([] : List Sl).map slv) := OS.lit w B 22 1 0 #[] hB rfl (by omega)
  have hlv : (xs.take k).length = k := by rw [List.length_take, l1]; omega
  have hlu : (xs.drop k).length = n - k := by rw [List.length_drop, l1]
  have hv2 := ha.take_cells k
  have hu2 := ha.drop_cells k
  clear ha l1 l2
  by_cases hkc : k < c
  · go_enter Tryz.func243, Tryz.ntmps243
    go_wp2_with (first
      | (at_builtin; refine app_sls _ rfl _ _ rfl B _ 0 0 [] rfl ho0 (some ad) k c (xs.take k) rfl hlv (fun i v hv => let ⟨a, b, c⟩ := hv2 i v hv; ⟨a, b, below_cell hal c⟩) (by omega) (Nat.le_trans hB hal.size) ?_; intro B1 d1 w1 ho1 hg1 hn1; rw [Nat.zero_add, List.nil_append] at ho1; have hw1 : Below w.heap.size w w1 := hal.grown hg1 hal.size (fun b hb => by simp [blk] at hb; omega); have hf1 := fresh_of (A := B1) hn1 (by simp); simp only [Nat.zero_add])
      | (at_builtin; refine app_sl _ rfl _ _ rfl B B1 k d1 (xs.take k) rfl ho1 (X, p, q) _ rfl (by simp) (by omega) (Nat.le_trans hB hw1.size) ?_; intro B3 d3 w3 ho3 hg3 hn3; have hw3 : Below w.heap.size w w3 := hw1.grown hg3 hw1.size hf1; have hf3 := fresh_next hf1 hn3 hw1.size)
      | (at_builtin; refine app_sls _ rfl _ _ rfl B B3 (k + 1) d3 (xs.take k ++ [(X, p, q)]) rfl ho3 (some (ad.add k)) (n - k) (c - k) (xs.drop k) rfl hlu (fun i v hv => let ⟨a, b, c⟩ := hu2 i v hv; ⟨a, b, below_cell hw3 c⟩) (by omega) (Nat.le_trans hB hw3.size) ?_; intro B4 d4 w4 ho4 hg4 hn4; rw [show k + 1 + (n - k) = n + 1 by omega] at ho4 ⊢; have hw4 : Below w.heap.size w w4 := hw3.grown hg4 hw3.size hf3; have hf4 := fresh_next hf3 (hn4.elim .inl fun h => .inr ⟨_, h, Nat.le_refl _⟩) hw3.size))
    have hL4 := HA.out.ins (k := k) hk hw4 (v := (X, p, q)) (hx.below hw4) ho4
    go_ret
    exact ⟨_, _, _, rfl, hL4, hw4, hf4⟩
  · obtain rfl : k = n := by omega
    obtain rfl : k = c := by omega
    have hus : xs.drop k = [] := List.eq_nil_of_length_eq_zero (by omega)
    go_enter Tryz.func243, Tryz.ntmps243
    go_wp2_with (first
      | (at_builtin; refine app_sls _ rfl _ _ rfl B _ 0 0 [] rfl ho0 (some ad) k k (xs.take k) rfl hlv (fun i v hv => let ⟨a, b, c⟩ := hv2 i v hv; ⟨a, b, below_cell hal c⟩) (by omega) (Nat.le_trans hB hal.size) ?_; intro B1 d1 w1 ho1 hg1 hn1; rw [Nat.zero_add, List.nil_append] at ho1; have hw1 : Below w.heap.size w w1 := hal.grown hg1 hal.size (fun b hb => by simp [blk] at hb; omega); have hf1 := fresh_of (A := B1) hn1 (by simp); simp only [Nat.zero_add])
      | (at_builtin; refine app_sl _ rfl _ _ rfl B B1 k d1 (xs.take k) rfl ho1 (X, p, q) _ rfl (by simp) (by omega) (Nat.le_trans hB hw1.size) ?_; intro B3 d3 w3 ho3 hg3 hn3; have hw3 : Below w.heap.size w w3 := hw1.grown hg3 hw1.size hf1; have hf3 := fresh_next hf1 hn3 hw1.size)
      | (at_builtin; refine app_sls _ rfl _ _ rfl B B3 (k + 1) d3 (xs.take k ++ [(X, p, q)]) rfl ho3 (some ad) 0 0 [] rfl rfl (fun i v hv => by simp at hv) (by omega) (Nat.le_trans hB hw3.size) ?_; intro B4 d4 w4 ho4 hg4 hn4; rw [Nat.add_zero] at ho4 ⊢; have hw4 : Below w.heap.size w w4 := hw3.grown hg4 hw3.size hf3; have hf4 := fresh_next hf3 (hn4.elim .inl fun h => .inr ⟨_, h, Nat.le_refl _⟩) hw3.size))
    have hL4 := HA.out.ins (k := k) hk hw4 (v := (X, p, q)) (hx.below hw4) (by rw [hus]; exact ho4)
    go_ret
    exact ⟨_, _, _, rfl, hL4, hw4, hf4⟩
theorem fdAt_in {zss : List (List Int)} {x : List Int} {k : Nat} (h : FdAt zss x k true) : x ∈ zss := by
  rcases h.2 with ⟨_, h⟩ | ⟨h, _⟩
  · exact h
  · cases h
theorem fdAt_out {zss : List (List Int)} {x : List Int} {k : Nat} (h : FdAt zss x k false) : x ∉ zss := by
  rcases h.2 with ⟨h, _⟩ | ⟨_, h1, h2⟩
  · cases h
  · intro hx
    obtain ⟨j, hj, rfl⟩ := List.mem_iff_getElem.1 hx
    have h3 : cmpL (row zss j) zss[j] = 0 := by rw [row_get hj]; exact cmpL_ord.self _
    by_cases hjk : j < k
    · have := h1 j hjk; omega
    · have := h2 j (by omega) hj; omega
section
variable {w w' : World} {B : Nat} {A A' : Option Addr} {n c c' : Nat} {vs : List Sl} {zss : List (List Int)}
theorem OB.kept {r : Option Nat} (h : OB w B A n c vs zss) (hg : w.grownBy w' r) (h0 : blk A = none ∨ blk A ≠ r) (hr : ∀ {A2 : Option Addr} {n2 c2 : Nat} {z : List Int}, OI w B 2 A2 n2 c2 z → blk A2 = none ∨ blk A2 ≠ r) : OB w' B A n c vs zss :=
  ⟨h.os.kept hg h0, h.len, fun j v z hv hz => (h.rows j v z hv hz).kept hg (hr (h.rows j v z hv hz))⟩
theorem OB.snoc (h : OB w B A n c vs zss) (hg : w.grownBy w' (blk A)) {v : Sl} {z : List Int} (ho : OI w B 2 v.1 v.2.1 v.2.2 z) (hos : OS w' B 22 1 A' (n + 1) c' ((vs ++ [v]).map slv)) : OB w' B A' (n + 1) c' (vs ++ [v]) (zss ++ [z]) := by
  refine ⟨hos, by simp [h.len], fun j u y hu hy => ?_⟩
  rw [List.getElem?_append] at hu hy
  rw [h.len] at hu
  split at hu
  · rename_i hj
    rw [if_pos hj] at hy
    have hr := h.rows j u y hu hy
    exact hr.kept hg (OS.typed hr.os h.os (by decide))
  · rename_i hj
    rw [if_neg hj] at hy
    have e : j - zss.length = 0 := by
      have := (List.getElem?_eq_some_iff.1 hu).1
      simp at this; omega
    rw [e] at hu hy
    simp at hu hy
    subst hu; subst hy
    exact ho.kept hg (OS.typed ho.os h.os (by decide))
theorem OB.lit1 {w : World} {B : Nat} {v : Sl} {z : List Int} (ho : OI w B 2 v.1 v.2.1 v.2.2 z) (hB : B ≤ w.heap.size) :
    OB (w.alloc (.cells #[.slice v.1 v.2.1 v.2.2] 22)) B (some ⟨w.heap.size, 0, none⟩) 1 1 [v] [z] := by
  refine ⟨OS.lit w B 22 1 1 #[.slice v.1 v.2.1 v.2.2] hB rfl (by omega), rfl, fun j u y hu hy => ?_⟩
  cases j with
  | zero =>
    simp at hu hy
    subst hu; subst hy
    exact ho.alloc _
  | succ j => simp at hu
end
structure CspS (w wr : World) (n : Nat) (gs : List (List Int)) (LA : Addr) (lc : Nat) (xs : List Sl) (QA : Option Addr) (qc : Nat) (ys : List Sl) (m : Nat) (E : List (List Int)) (k j : Nat) : Prop where
  bl : Below w.heap.size w wr
  l : OB wr w.heap.size (some LA) m lc xs (setG cmpL E)
  q : OB wr w.heap.size QA m qc ys E
  ne : blk (some LA) ≠ blk QA
  g : Gath n gs E k j
def RetCl (w : World) (n : Nat) (gs : List (List Int)) (most : Nat) (e : Ending) (w' : World) : Prop :=
  ∃ (A : Option Addr) (m c : Nat) (ok : Bool) (L : List (List Int)), e = .returned (.tuple #[.slice A m c, .bool ok]) ∧ Below w.heap.size w w' ∧ RR w' A m L ∧ m ≤ c ∧ c ≤ 9223372036854775807 ∧
    ((ok = true ∧ L.length ≤ most ∧ GenL n gs L) ∨ (ok = false ∧ L = [] ∧ Over n gs most))
set_option maxRecDepth 100000 in
set_option maxHeartbeats 800000 in
theorem l05Close_any (n : Nat) (GA : Option Addr) (gn gc : Nat) (gs : List (List Int)) (most : Nat) (w : World) (hg : RR w GA gn gs) (hp : AllN n gs) (hn : n ≤ 32) (hgn : gn ≤ 1048576) (h1 : 1 ≤ most) (h2 : most ≤ 720) :
    Calls Tryz.prog 204 #[.int .i64 n, .slice GA gn gc, .int .i64 most] w (RetCl w n gs most) := by
  have hgl := Lib.hid hg.len
  have hid1 := l04One_any n w (by omega)
  have HP := Lib.hid hp
  have HG := Lib.hid (fun (w' : World) (hb : Below w.heap.size w w') => hg.keep hb)
  clear hp
  go_enter Tryz.func204, Tryz.ntmps204
  go_wp2_with fail
  refine hid1.mono ?_
  rintro e w1 ⟨A1, n1, c1, rfl, ho1, hb1⟩
  obtain rfl : n = n1 := (iotaP_len n).symm.trans ho1.len
  have o2 := OB.lit1 (v := (A1, n, c1)) ho1 hb1.size
  obtain ⟨W2, hW2⟩ : ∃ W2, w1.alloc (.cells #[.slice A1 n c1] 22) = W2 := ⟨_, rfl⟩
  have b12 : Below w1.heap.size w1 W2 := hW2 ▸ below_alloc w1 _
  have s12 : W2.heap.size = w1.heap.size + 1 := by rw [← hW2]; simp
  rw [show w1.alloc (.cells #[.slice (A1, n, c1).1 (A1, n, c1).2.1 (A1, n, c1).2.2] 22) = W2 from hW2] at o2
  have o3 := OB.lit1 (w := W2) (v := (A1, n, c1)) (ho1.below b12) (Nat.le_trans hb1.size b12.size)
  obtain ⟨W3, hW3⟩ : ∃ W3, W2.alloc (.cells #[.slice A1 n c1] 22) = W3 := ⟨_, rfl⟩
  have b23 : Below W2.heap.size W2 W3 := hW3 ▸ below_alloc W2 _
  rw [show W2.alloc (.cells #[.slice (A1, n, c1).1 (A1, n, c1).2.1 (A1, n, c1).2.2] 22) = W3 from hW3] at o3
  have hst : CspS w W3 n gs ⟨w1.heap.size, 0, none⟩ 1 [(A1, n, c1)] (some ⟨W2.heap.size, 0, none⟩) 1 [(A1, n, c1)] 1 [iotaP n] 0 0 :=
    ⟨(hb1.trans (b12.mono hb1.size)).trans (b23.mono (Nat.le_trans hb1.size b12.size)), o2.below b23, o3, by simp [blk]; omega, Gath.start n gs⟩
  have HS12 := Lib.hid s12
  clear hid1 o2 o3 ho1 b12 b23 s12 hb1 hg
  go_wp2
  go_loopw [9, 10, 11] (fun lv qv i wr => ∃ (k : Nat) (LA : Addr) (lc : Nat) (xs : List Sl) (QA : Option Addr) (qc : Nat) (ys : List Sl) (m : Nat) (E : List (List Int)), k ≤ m ∧ i = .int .i64 k ∧ lv = .slice (some LA) m lc ∧ qv = .slice QA m qc ∧ m ≤ most ∧ CspS w wr n gs LA lc xs QA qc ys m E k 0) (fun _ _ i _ => most - (intOf i).toNat)
  case atStart => exact ⟨0, _, 1, _, _, 1, _, 1, _, by omega, rfl, rfl, rfl, h1, hst⟩
  case round =>
    clear hst hW2 hW3
    obtain ⟨k, LA, lc, xs, QA, qc, ys, m, E, hk, rfl, rfl, rfl, hm, hr⟩ := hrel
    have hml := hr.q.slen.2
    by_cases hlt : k < m
    · go_wp2
      go_loopw [9, 10, 12] (fun lv qv i wi => ∃ (j : Nat) (LA : Addr) (lc : Nat) (xs : List Sl) (QA : Option Addr) (qc : Nat) (ys : List Sl) (m : Nat) (E : List (List Int)), j ≤ gn ∧ i = .int .i64 j ∧ lv = .slice (some LA) m lc ∧ qv = .slice QA m qc ∧ m ≤ most ∧ k < m ∧ CspS w wi n gs LA lc xs QA qc ys m E k j) (fun _ _ i _ => gn - (intOf i).toNat)
      case atStart => exact ⟨0, LA, lc, xs, QA, qc, ys, m, E, Nat.zero_le _, rfl, rfl, rfl, hm, hlt, hr⟩
      case round =>
        clear hr hm hlt hml hk
        obtain ⟨j, LA, lc, xs, QA, qc, ys, m, E, hj, rfl, rfl, rfl, hm, hkm, hr⟩ := hrel
        have hml := hr.q.slen.2
        by_cases hlj : j < gn
        · have hkE : k < E.length := by omega
          have hjG : j < gs.length := by rw [hgl.out]; exact hlj
          have hpe : PermN n (row E k) := by rw [row_get hkE]; exact (hr.g.gen _ (List.getElem_mem hkE)).perm HP.out
          have hpg : PermN n (row gs j) := by rw [row_get hjG]; exact HP.out _ (List.getElem_mem hjG)
          obtain ⟨ga, Ga, g1, gc1, rfl, cg, hgn1, hgc1, rg⟩ := (HG.out _ hr.bl).get hlj
          obtain ⟨qa, va, vn, vc, rfl, ck, hvn, hvc, rk⟩ := hr.q.reads.get hkm
          obtain rfl : n = vn := hpe.1.symm.trans rk.len
          obtain rfl : n = g1 := hpg.1.symm.trans rg.len
          have htm := fun (w' : World) (hb : Below wr.heap.size wr w') => l04Times_any va n vc (row E k) Ga n gc1 (row gs j) w' (rk.keep hb) (rg.keep hb) hpe.2 (Nat.le_refl _) (by omega)
          have hpp := hpe.mul hpg
          have HJG := Lib.hid hjG
          have HKE := Lib.hid hkE
          have HR := Lib.hid hr
          have HTM := Lib.hid htm
          obtain ⟨pq, hpq⟩ : ∃ pq, thenP (row E k) (row gs j) = pq := ⟨_, rfl⟩
          have HPQ := Lib.hid hpq
          rw [hpq] at HTM
          have hdr : Below wr.heap.size wr wr.drew := by have := below_drewn wr 1; rwa [← World.drew_is_drewN] at this
          clear hpe hpg rk rg htm hpq
          go_wp2
          refine region_last (P := Tryz.prog) (S := fun w' => w'.cell? (qa.add k) = some (.slice va n vc) ∧ w'.cell? (ga.add j) = some (.slice Ga n gc1)) (by kernel_rfl) (by simp only [List.getLast?_cons_cons, List.getLast?_singleton]; rfl) (by dsimp only [List.dropLast]) (by kernel_rfl) (by simpa using ⟨ck, cg⟩) ?_
          intro hS
          refine wpAnyH_take (i := 0) (v := ?_) rfl (by kernel_rfl) (by kernel_rfl) (by kernel_rfl) (fun _ _ _ h => h) (Or.inl ⟨by rfl, ?_⟩) (by assumption) ?_
          rotate_left
          · (intro w hSw; (try dsimp only at hSw); go_simp; (try with_reducible rfl))
          simp only [Act.put, List.setIfInBounds_toArray, List.set_cons_zero, List.set_cons_succ]
          refine wpAnyH_take (i := 1) (v := ?_) rfl (by kernel_rfl) (by kernel_rfl) (by kernel_rfl) (fun _ _ _ h => h) (Or.inl ⟨by rfl, ?_⟩) (by assumption) ?_
          rotate_left
          · (intro w hSw; (try dsimp only at hSw); go_simp; (try with_reducible rfl))
          simp only [Act.put, List.setIfInBounds_toArray, List.set_cons_zero, List.set_cons_succ]
          refine wpAnyH_take (i := 2) (v := ?_) rfl (by kernel_rfl) (by kernel_rfl) (by kernel_rfl) (fun _ _ _ h => h) (Or.inl ⟨by rfl, ?_⟩) (by assumption) ?_
          rotate_left
          · (intro w hSw; (try dsimp only at hSw); go_simp; (try with_reducible rfl))
          simp only [Act.put, List.setIfInBounds_toArray, List.set_cons_zero, List.set_cons_succ]
          refine wpAnyH_take (i := 3) (v := ?_) rfl (by kernel_rfl) (by kernel_rfl) (by kernel_rfl) (fun _ _ _ h => h) (Or.inl ⟨by rfl, ?_⟩) (by assumption) ?_
          rotate_left
          · (intro w hSw; (try dsimp only at hSw); go_simp; (try with_reducible rfl))
          simp only [Act.put, List.setIfInBounds_toArray, List.set_cons_zero, List.set_cons_succ]
          refine wpAnyH_take (i := 4) (v := ?_) rfl (by kernel_rfl) (by kernel_rfl) (by kernel_rfl) (fun _ _ _ h => h) (Or.inl ⟨by rfl, ?_⟩) (by assumption) ?_
          rotate_left
          · (intro w hSw; (try dsimp only at hSw); go_simp; (try with_reducible rfl))
          simp only [Act.put, List.setIfInBounds_toArray, List.set_cons_zero, List.set_cons_succ]
          refine wpAnyH_take (i := 5) (v := ?_) rfl (by kernel_rfl) (by kernel_rfl) (by kernel_rfl) (fun _ _ _ h => h) (Or.inl ⟨by rfl, ?_⟩) (by assumption) ?_
          rotate_left
          · (intro w hSw; (try dsimp only at hSw); go_simp; (try with_reducible rfl))
          simp only [Act.put, List.setIfInBounds_toArray, List.set_cons_zero, List.set_cons_succ]
          refine wpAnyH_take (i := 6) (v := ?_) rfl (by kernel_rfl) (by kernel_rfl) (by kernel_rfl) (fun _ _ _ h => h) (Or.inl ⟨by rfl, ?_⟩) (by assumption) ?_
          rotate_left
          · (intro w hSw; (try dsimp only at hSw); go_simp; (try with_reducible rfl))
          simp only [Act.put, List.setIfInBounds_toArray, List.set_cons_zero, List.set_cons_succ]
          refine wpAnyH_take (i := 7) (v := ?_) rfl (by kernel_rfl) (by kernel_rfl) (by kernel_rfl) (fun _ _ _ h => h) (Or.inl ⟨by rfl, ?_⟩) (by assumption) ?_
          rotate_left
          · (intro w hSw; (try dsimp only at hSw); go_simp; (try with_reducible rfl))
          simp only [Act.put, List.setIfInBounds_toArray, List.set_cons_zero, List.set_cons_succ]
          refine wpAnyH_ready (rs := [8]) (by kernel_rfl) (by simp) ?_
          refine AllReadyH.cons rfl (fun K hK => ?_) AllReadyH.nil
          go_simp
          refine (HTM.out _ hdr).mono ?_
          rintro e w2 ⟨P, pn, pc, rfl, hoP, hb2⟩
          dsimp only
          have hb2' : Below wr.heap.size wr w2 := hdr.trans (hb2.mono (Nat.le_refl _))
          refine hK.out _ _ ⟨below_cell hb2' ck, below_cell hb2' cg⟩ (fun hS1 => ?_)
          clear hK K hS
          refine wpAnyH_done (by kernel_rfl) ?_ _
          dsimp only [atEnd]
          obtain ⟨hPc, hPc2⟩ := hoP.os.cap
          have HPN := Lib.hid (show pn = n by rw [← hoP.len, ← HPQ.out]; exact hpp.1)
          have hR2l := HR.out.l.below hb2'
          have hfd := l05Find_any (some LA) m lc (setG cmpL E) P pn pc pq w2 hR2l.reads (by omega) hoP.reads hPc hPc2 (setG_strict cmpL_ord E)
          clear hS1 ck cg hpp
          go_wp2_with fail
          refine hfd.mono ?_
          rintro e w3 ⟨at_, fnd, rfl, hat, hd3⟩
          cases fnd with
          | true =>
            have hin : pq ∈ E := (setG_mem cmpL_ord E pq).1 (fdAt_in hat)
            have hN : CspS w w3 n gs LA lc xs (some qa) qc ys m E k (j + 1) := by
              have hb3 := hb2'.trans (hd3.below.mono hb2'.size)
              exact ⟨HR.out.bl.trans (hb3.mono HR.out.bl.size), HR.out.l.below hb3, HR.out.q.below hb3, HR.out.ne, HR.out.g.old (by rw [HPQ.out]; exact hin)⟩
            have HN := Lib.hid hN
            clear hN hin hfd hat hR2l
            go_wp2
            go_roundw
            case rel => exact ⟨j + 1, LA, lc, xs, some qa, qc, ys, m, E, by omega, by go_num, rfl, rfl, hm, hkm, HN.out⟩
            case measure => simp [intOf]; omega
          | false =>
            have hout : pq ∉ E := fun h => fdAt_out hat ((setG_mem cmpL_ord E pq).2 h)
            have hgn := HR.out.g.new HKE.out HJG.out (by rw [HPQ.out]; exact hout)
            rw [HPQ.out] at hgn
            have HGN := Lib.hid hgn
            have hb3 := hb2'.trans (hd3.below.mono hb2'.size)
            by_cases hmost : m = most
            · have HOV := Lib.hid (hgn.over (m := most) (by rw [List.length_append, List.length_singleton]; omega))
              have HBB := Lib.hid (HR.out.bl.trans (hb3.mono HR.out.bl.size))
              have hmi : ((m : Int) == (most : Int)) = true := by simp [hmost]
              clear hgn hout hfd hat hR2l hmost
              go_wp2
              go_ret2
              exact ⟨none, 0, 0, false, [], rfl, HBB.out, RS.nil_ _ _ _, by omega, by omega, .inr ⟨rfl, rfl, HOV.out⟩⟩
            · have hmi : ((m : Int) == (most : Int)) = false := by simp; omega
              have hl3 := HR.out.l.below hb3
              have hq3 := HR.out.q.below hb3
              have hP3 := (hoP.below hd3.below).more HR.out.bl.size
              have hb03 := HR.out.bl.trans (hb3.mono HR.out.bl.size)
              have hat1 : at_ ≤ m := by have := hat.1; rw [hl3.slen.2] at this; exact this
              have hput := l05Put_new w.heap.size LA m lc at_ xs (setG cmpL E) P pn pc pq w3 hl3 hat1 (by omega) hP3 hb03.size
              have hse : (setG cmpL E).take at_ ++ [pq] ++ (setG cmpL E).drop at_ = setG cmpL (E ++ [pq]) := by rw [fd_put (setG_strict cmpL_ord E) hat, setG_snoc]
              rw [hse] at hput
              have hqlt : ∀ b, blk (some qa) = some b → b < w3.heap.size := fun b hb => (hq3.os.lt hb).2
              have HQL := Lib.hid hqlt
              have hmb : m + 1 ≤ 2199023255552 := by omega
              clear hgn hout hfd hat hR2l hse hqlt
              go_wp2_with fail
              refine hput.mono ?_
              rintro e w4 ⟨A4, c4, vs4, rfl, hl4, hb4, hf4⟩
              obtain ⟨g4, rfl, hg4B, hg4l⟩ := hl4.os.form (Nat.succ_pos _)
              have hq4 := hq3.below hb4
              have hP4 := hP3.below hb4
              have hb04 := hb03.trans (hb4.mono hb03.size)
              have hs4 := hb04.size
              have HL4 := Lib.hid hl4
              have HQ4 := Lib.hid hq4
              have hq4o := hq4.os
              clear hput hl3 hq3 hP3 hl4 hq4
              go_wp2_with (at_builtin; refine app_sl _ rfl (.tmp 58) (.tmp 60) rfl w.heap.size (some qa) m qc ys rfl hq4o (P, pn, pc) w4.heap.size rfl rfl hmb hs4 ?_; intro Q5 qc5 w5 ho5 hg5 hn5)
              have hN : CspS w w5 n gs ⟨g4, 0, none⟩ c4 vs4 Q5 qc5 (ys ++ [(P, pn, pc)]) (m + 1) (E ++ [pq]) k (j + 1) := by
                have hneq : blk (some (⟨g4, 0, none⟩ : Addr)) ≠ blk (some qa) := fun e => by
                  have h1 := hf4 g4 rfl
                  have h2 := HQL.out g4 e.symm
                  omega
                refine ⟨hb04.grown hg5 hs4 (fun q hq => (hq4o.lt hq).1), HL4.out.kept hg5 (.inr hneq) (fun h => OS.typed h.os hq4o (by decide)), HQ4.out.snoc hg5 hP4 ho5, ?_, HGN.out⟩
                rcases hn5 with e | ⟨q, e, hq⟩
                · rw [e]; exact hneq
                · rw [e]
                  intro e2
                  have : g4 = q := by simpa [blk] using e2
                  omega
              have HN := Lib.hid hN
              clear hN hP4 hg5 ho5 hn5 hf4 hq4o
              go_wp2
              go_roundw
              case rel => exact ⟨j + 1, _, c4, vs4, Q5, qc5, _, m + 1, _, by omega, by go_num, rfl, rfl, by omega, by omega, HN.out⟩
              case measure => simp [intOf]; omega
        · obtain rfl : j = gn := by omega
          have hgj := hr.g
          rw [← hgl.out] at hgj
          have hT := Lib.hid (hgj.turn (by omega))
          have HR := Lib.hid hr
          clear hgj hr
          go_wp2
          go_roundw
          case rel => exact ⟨k + 1, LA, lc, xs, QA, qc, ys, m, E, by omega, by go_num, rfl, rfl, hm, ⟨HR.out.bl, HR.out.l, HR.out.q, HR.out.ne, hT.out⟩⟩
          case measure => simp [intOf]; omega
    · have hkm : k = m := by omega
      have hg0 := hr.g
      rw [hkm, ← hml] at hg0
      have HGL := Lib.hid hg0.genL
      have HLN := Lib.hid (show (setG cmpL E).length ≤ most from Nat.le_trans (setG_len E) (by omega))
      have HR := Lib.hid hr
      clear hr hg0
      go_wp2
      go_ret2
      exact ⟨some LA, m, lc, true, setG cmpL E, rfl, HR.out.bl, HR.out.l.reads, HR.out.l.os.cap.1, HR.out.l.os.cap.2, .inl ⟨rfl, HLN.out, HGL.out⟩⟩
end Go.Proofs.YtdkbcjdimhgmnaaGreat
