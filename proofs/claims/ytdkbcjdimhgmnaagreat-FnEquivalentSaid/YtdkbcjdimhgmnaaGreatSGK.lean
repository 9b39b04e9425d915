/- The builtin clear on the tail of a row that a call owns. No condition beyond those stated. -/
import Derived.Test.YtdkbcjdimhgmnaaGreatSGG
import Derived.Lib.SliceRun
import Derived.Test.YtdkbcjdimhgmnaaGreatSGH
set_option linter.unusedVariables false
set_option linter.unusedSimpArgs false
namespace Go.Proofs.YtdkbcjdimhgmnaaGreat
open Go.RowKit
section
variable {w w' : World} {B : Nat} {e : TypeId} {size g n c k : Nat} {xs : List Value}
theorem OS.cut (h : OS w B e 1 (some ⟨g, 0, none⟩) n c xs) (hk : k ≤ n) : OS w B e 1 (some ⟨g, 0, none⟩) k c (xs.take k) := by
  rcases h.cases with ⟨h0, _⟩ | ⟨g', cur, h0, hB, hg, hnc, hc, hs, ht⟩
  · cases h0
  · injection h0 with h0
    injection h0 with h0
    subst h0
    refine ⟨by have := h.len; simp; omega, .inr ⟨g, c, cur, rfl, hB, hg, by omega, hc, hs, ?_⟩⟩
    rw [← ht, Nat.mul_one, Nat.mul_one, List.take_take, Nat.min_eq_left hk]
theorem OS.cleared (vs : List Value) : ∀ {w : World} {xs : List Value} (o : Nat), OS w B e 1 (some ⟨g, 0, none⟩) n c xs → k ≤ o → ∃ ys, OS (w.setCells g o vs) B e 1 (some ⟨g, 0, none⟩) n c ys ∧ ys.take k = xs.take k ∧ w.grownBy (w.setCells g o vs) (some g) := by
  induction vs with
  | nil => intro w xs o h _; exact ⟨xs, h, rfl, World.grownBy.refl _ _⟩
  | cons v r ih =>
    intro w xs o h hk
    obtain ⟨ys, h1, h2, h3⟩ := ih (o + 1) (h.set o v) (by omega)
    exact ⟨ys, h1, by rw [h2, List.take_set_of_le (by omega)], grown_set.trans h3⟩
end
section
variable {P : Program} {ops : Array Oper} {rest : List Oper} {o : Oper} {a : Act} {Q : Exit → Act → World → Prop}
theorem wpList_clear (w : World) (hgd : o.guard = none) (x : Operand) (t : TypeId) (ho : o.op = .call { callee := .builtin .clear, args := #[x], argTypes := #[t] }) (e : TypeId) (z : Value)
    (ht : P.underlying t = some (.slice e)) (hv : ∀ w, (zeroValue e).run P w = .ok z w) (hz : z.cells = #[z]) (h1 : z.oneCell' = true) (B g k n m c c' : Nat) (xs : List Value) (hown : OS w B e 1 (some ⟨g, 0, none⟩) n c xs)
    (hx : a.eval x = .slice (some ⟨g, k, none⟩) m c') (hm : 0 < m) (hkm : k + m = n)
    (h : ∀ w', OS w' B e 1 (some ⟨g, 0, none⟩) k c (xs.take k) → w.grownBy w' (some g) → wpList P ops Q rest (a.put o.dst (.tuple #[])) w') :
    wpList P ops Q (o :: rest) a w := by
  have hl := hown.len
  have hcell : ∀ j, j < m → (w.cell? ⟨g, k + j, none⟩).isSome = true ∧ w.frozen? ⟨g, k + j, none⟩ = false := fun j hj => by
    have hlt : k + j < xs.length := by omega
    obtain ⟨g', e1, h2, h3⟩ := hown.cell (List.getElem?_eq_getElem hlt)
    injection e1 with e1
    injection e1 with e1
    subst e1
    exact ⟨by rw [h2]; rfl, h3⟩
  have hrun := Lib.run_clear_slice (P := P) w t e o.type z ht hv hz h1 g k m c' hm (fun j hj => (hcell j hj).1) (fun j hj => (hcell j hj).2)
  obtain ⟨ys, h2, h3, h4⟩ := OS.cleared (k := k) (List.replicate m z) k hown (Nat.le_refl _)
  refine wpList_plain hgd fun K hK => ?_
  unfold Oper.wp execOp
  simp only [ho, resolve, invoke, builtin, Sem.run_bind, Sem.run_pure, Result.andThen_ok, List.map_toArray, List.map_cons, List.map_nil, hx, hrun]
  exact hK _ _ (h _ (by rw [← h3]; exact h2.cut (by omega)) h4)
end
theorem comp_short {α : Type} [DecidableEq α] {l : List α} (h : l.length < 2) : comp l = l := comp_same fun k hk => by omega
def noneSame (zs : List Int) (k : Nat) : Prop := ∀ (i : Nat), i + 1 < k → nth zs (i + 1) ≠ nth zs i
theorem noneSame_step {zs : List Int} {k : Nat} (h : noneSame zs k) (hk : 0 < k) (hne : nth zs k ≠ nth zs (k - 1)) : noneSame zs (k + 1) := fun i hi => by
  rcases Nat.lt_succ_iff_lt_or_eq.1 hi with h1 | h1
  · exact h i h1
  · have e : i = k - 1 := by omega
    subst e
    rw [show k - 1 + 1 = k by omega]
    exact hne
theorem noneSame_comp {zs : List Int} (h : noneSame zs zs.length) : comp zs = zs := comp_same fun k hk => by
  have := h k hk
  rwa [nth_get hk, nth_get (by omega)] at this
theorem compT_start {zs : List Int} {k : Nat} (h : noneSame zs (k + 1)) (hk : k + 1 < zs.length) (he : nth zs (k + 1) = nth zs k) : CompT zs zs (k + 1) (k + 1 + 1) := by
  rw [nth_get hk, nth_get (by omega)] at he
  refine CompT.start hk (fun i hi hd => ?_) he
  have := h i (by omega)
  rwa [nth_get hd, nth_get (by omega)] at this
theorem compT_nth {d z : List Int} {k j i : Nat} (h : CompT d z k j) (hi : j ≤ i + 1) : nth z i = nth d i := by
  unfold nth List.getD
  rw [h.rest i hi]
theorem compT_same {d z : List Int} {k j : Nat} (h : CompT d z k (j + 1)) (hj : j + 1 < d.length) (he : nth d (j + 1) = nth d j) : CompT d z k (j + 1 + 1) := by
  rw [nth_get hj, nth_get (by omega)] at he
  exact h.same hj he
theorem compT_new {d z : List Int} {k j : Nat} (h : CompT d z k (j + 1)) (hj : j + 1 < d.length) (he : nth d (j + 1) ≠ nth d j) : CompT d (z.set k (nth d (j + 1))) (k + 1) (j + 1 + 1) := by
  rw [nth_get hj, nth_get (by omega)] at he
  rw [nth_get hj]
  exact h.new hj he
theorem OI.of_os {w : World} {B : Nat} {e : TypeId} {A : Option Addr} {n c k : Nat} {zs : List Int} (h : OS w B e 1 A n c ((ints zs).take k)) (ha : All64 zs) : OI w B e A n c (zs.take k) :=
  ⟨by rwa [show (ints zs).take k = ints (zs.take k) by simp [ints]] at h, ha.take k⟩
set_option maxRecDepth 100000 in
set_option maxHeartbeats 2000000 in
theorem compactI_any (B : Nat) (A : Option Addr) (n c : Nat) (zs : List Int) (w : World) (ho : OI w B 2 A n c zs) (hn : n ≤ 1048576) :
    Calls Tryz.prog 257 #[.slice A n c] w (fun e w' => ∃ m, e = .returned (.slice A m c) ∧ OI w' B 2 A m c (comp zs) ∧ w.grownBy w' (blk A)) := by
  have hla := Lib.hid ho.len
  have hcap := ho.os.cap
  have hz0 : ∀ w, (zeroValue 2).run Tryz.prog w = .ok (.int .i64 0) w := fun _ => by kernel_rfl
  by_cases h2 : n < 2
  · have HC := Lib.hid (comp_short (l := zs) (by rw [hla.out]; exact h2))
    clear hz0
    go_enter Tryz.func257, Tryz.ntmps257
    go_wp2
    go_ret
    exact ⟨n, rfl, by rw [HC.out]; exact ho, World.grownBy.refl _ _⟩
  · obtain ⟨g, rfl, hgB, hgl⟩ := ho.os.form (by omega)
    go_enter Tryz.func257, Tryz.ntmps257
    go_wp2
    go_loopw [3] (fun i wr => ∃ k : Nat, k + 1 ≤ n ∧ i = .int .i64 ((k + 1 : Nat) : Int) ∧ Drawn w wr ∧ noneSame zs (k + 1)) (fun i _ => n - (intOf i).toNat)
    case atStart => exact ⟨0, by omega, rfl, Drawn.refl _, fun i hi => by omega⟩
    case round =>
      obtain ⟨k, hk, rfl, hd, hs⟩ := hrel
      by_cases hlt : k + 1 < n
      · have hod : OI wr B 2 (some ⟨g, 0, none⟩) n c zs := by obtain ⟨q, rfl⟩ := hd; exact ho.drewN q
        obtain ⟨g1, e1, hc1, hf1, hi1⟩ := hod.cell (k := k + 1) hlt
        obtain ⟨g2, e2, hc0, hf0, hi0⟩ := hod.cell (k := k) (by omega)
        injection e1 with e1; injection e1 with e1; subst e1
        injection e2 with e2; injection e2 with e2; subst e2
        by_cases he : nth zs (k + 1) = nth zs k
        · have HT := Lib.hid (compT_start hs (by rw [hla.out]; exact hlt) he)
          have he' : (nth zs (k + 1) == nth zs k) = true := by simp [he]
          have hg0 : w.grownBy wr (some g) := by obtain ⟨q, rfl⟩ := hd; exact ⟨rfl, rfl, rfl, Nat.le_refl _, fun _ _ _ => rfl⟩
          clear he hs
          go_wp2
          go_quiet (fail)
          go_wp2
          have hod2 : OI (wr.drewN nq) B 2 (some ⟨g, 0, none⟩) n c zs := hod.drewN nq
          have hg2 : w.grownBy (wr.drewN nq) (some g) := ⟨hg0.os, hg0.tape, hg0.output, hg0.size, hg0.block⟩
          clear hod hg0 hc1 hc0 hf1 hf0
          generalize wr.drewN nq = wv at *
          clear hd
          go_loopw [3, 5] (fun t i w2 => ∃ (q j : Nat) (z : List Int), t = .int .i64 q ∧ i = .int .i64 ((j + 1 : Nat) : Int) ∧ k + 1 + (j + 1) ≤ n ∧ CompT zs z q (k + 1 + (j + 1)) ∧ OI w2 B 2 (some ⟨g, 0, none⟩) n c z ∧ w.grownBy w2 (some g)) (fun _ i _ => n - (intOf i).toNat)
          case atStart => exact ⟨k + 1, 0, zs, rfl, rfl, by omega, HT.out, hod2, hg2⟩
          case round =>
            clear hod2 hg2
            obtain ⟨q, j, z, rfl, rfl, hjn, hT, hoz, hgz⟩ := hrel
            have hqj := hT.kj
            by_cases hjl : k + 1 + (j + 1) < n
            · obtain ⟨g1, e1, hc1, hf1, hi1⟩ := hoz.cell (k := k + 1 + (j + 1)) hjl
              obtain ⟨g2, e2, hc0, hf0, hi0⟩ := hoz.cell (k := k + 1 + j) (by omega)
              obtain ⟨g3, e3, hcq, hfq, hiq⟩ := hoz.cell (k := q) (by omega)
              injection e1 with e1; injection e1 with e1; subst e1
              injection e2 with e2; injection e2 with e2; subst e2
              injection e3 with e3; injection e3 with e3; subst e3
              rw [compT_nth hT (by omega)] at hc1 hi1
              rw [compT_nth hT (by omega)] at hc0 hi0
              by_cases he : nth zs (k + 1 + (j + 1)) = nth zs (k + 1 + j)
              · have HT2 := Lib.hid (compT_same (j := k + 1 + j) hT (by rw [hla.out]; exact hjl) he)
                have he' : (nth zs (k + 1 + (j + 1)) != nth zs (k + 1 + j)) = false := by simp [he]
                have ho2 := fun t => hoz.drewN t
                have HO := Lib.hid ho2
                clear he hT ho2 hoz hcq hfq hiq
                go_wp2
                go_quiet (fail)
                go_wp2
                have ho3 := HO.out nq
                have hg3 : w.grownBy (wr.drewN nq) (some g) := ⟨hgz.os, hgz.tape, hgz.output, hgz.size, hgz.block⟩
                go_roundw
                case rel => exact ⟨q, j + 1, z, rfl, by go_num, by omega, HT2.out, ho3, hg3⟩
                case measure => simp [intOf]; omega
              · have HT2 := Lib.hid (compT_new (j := k + 1 + j) hT (by rw [hla.out]; exact hjl) he)
                have he' : (nth zs (k + 1 + (j + 1)) != nth zs (k + 1 + j)) = true := by simpa using he
                have ho2 := fun t => (hoz.drewN t).set q hi1
                have HO := Lib.hid ho2
                clear he hT ho2 hoz
                go_wp2
                go_quiet (fail)
                go_wp2
                have ho3 := HO.out nq
                have hg3 : w.grownBy ((wr.drewN nq).setCell ⟨g, q, none⟩ (.int .i64 (nth zs (k + 1 + (j + 1))))) (some g) := (show w.grownBy (wr.drewN nq) (some g) from ⟨hgz.os, hgz.tape, hgz.output, hgz.size, hgz.block⟩).trans grown_set
                go_roundw
                case rel => exact ⟨q + 1, j + 1, _, by go_num, by go_num, by omega, HT2.out, ho3, hg3⟩
                case measure => simp [intOf]; omega
            · have hend := CompT.done (k := q) (by rw [hla.out]; rwa [show k + 1 + (j + 1) = n by omega] at hT)
              have HE := Lib.hid hend
              have hq : q < n := by omega
              have hall := hoz.all
              have HAL := Lib.hid hall
              clear hT hend hall
              go_wp2_with (refine wpList_clear _ rfl (.tmp 56) 22 rfl 2 (.int .i64 0) Tryz.underlying22 hz0 rfl rfl B g q n (n - q) c (c - q) _ hoz.os rfl (by omega) (by omega) ?_; intro w5 ho5 hg5)
              have ho6 := OI.of_os ho5 HAL.out
              rw [HE.out.1] at ho6
              go_wp2
              go_ret
              exact ⟨q, rfl, ho6, hgz.trans hg5⟩
        · have HS := Lib.hid (noneSame_step (k := k + 1) hs (by omega) (by simpa using he))
          have he' : (nth zs (k + 1) == nth zs k) = false := by simp [he]
          clear he hs hod
          go_wp2
          go_quiet (fail)
          go_wp2
          go_roundw
          case rel => exact ⟨k + 1, by omega, by go_num, hd.more _, HS.out⟩
          case measure => simp [intOf]; omega
      · have HC := Lib.hid (noneSame_comp (zs := zs) (by rw [hla.out, show n = k + 1 by omega]; exact hs))
        have hod : OI wr B 2 (some ⟨g, 0, none⟩) n c zs := by obtain ⟨q, rfl⟩ := hd; exact ho.drewN q
        have hg0 : w.grownBy wr (some g) := by obtain ⟨q, rfl⟩ := hd; exact ⟨rfl, rfl, rfl, Nat.le_refl _, fun _ _ _ => rfl⟩
        clear hs
        go_wp2
        go_ret
        exact ⟨n, rfl, by rw [HC.out]; exact hod, hg0⟩
def noneSameR (zs : List (List Int)) (k : Nat) : Prop := ∀ (i : Nat), i + 1 < k → row zs (i + 1) ≠ row zs i
theorem noneSameR_step {zs : List (List Int)} {k : Nat} (h : noneSameR zs k) (hk : 0 < k) (hne : row zs k ≠ row zs (k - 1)) : noneSameR zs (k + 1) := fun i hi => by
  rcases Nat.lt_succ_iff_lt_or_eq.1 hi with h1 | h1
  · exact h i h1
  · have e : i = k - 1 := by omega
    subst e
    rw [show k - 1 + 1 = k by omega]
    exact hne
theorem noneSameR_comp {zs : List (List Int)} (h : noneSameR zs zs.length) : comp zs = zs := comp_same fun k hk => by
  have := h k hk
  rwa [row_get hk, row_get (by omega)] at this
theorem compTR_start {zs : List (List Int)} {k : Nat} (h : noneSameR zs (k + 1)) (hk : k + 1 < zs.length) (he : row zs (k + 1) = row zs k) : CompT zs zs (k + 1) (k + 1 + 1) := by
  rw [row_get hk, row_get (by omega)] at he
  refine CompT.start hk (fun i hi hd => ?_) he
  have := h i (by omega)
  rwa [row_get hd, row_get (by omega)] at this
theorem compTR_same {d z : List (List Int)} {k j : Nat} (h : CompT d z k (j + 1)) (hj : j + 1 < d.length) (he : row d (j + 1) = row d j) : CompT d z k (j + 1 + 1) := by
  rw [row_get hj, row_get (by omega)] at he
  exact h.same hj he
theorem compTR_new {d z : List (List Int)} {k j : Nat} (h : CompT d z k (j + 1)) (hj : j + 1 < d.length) (he : row d (j + 1) ≠ row d j) : CompT d (z.set k (row d (j + 1))) (k + 1) (j + 1 + 1) := by
  rw [row_get hj, row_get (by omega)] at he
  rw [row_get hj]
  exact h.new hj he
structure SubT {α : Type} (Z Y : List α) (q j : Nat) : Prop where
  sub : (Y.take q).Sublist (Z.take j)
  rest : ∀ i, j ≤ i + 1 → Y[i]? = Z[i]?
theorem SubT.start {α : Type} (Z : List α) (q j : Nat) (h : q ≤ j) : SubT Z Z q j := ⟨List.take_sublist_take_left h, fun _ _ => rfl⟩
theorem SubT.same {α : Type} {Z Y : List α} {q j : Nat} (h : SubT Z Y q j) : SubT Z Y q (j + 1) := ⟨h.sub.trans (List.take_sublist_take_left (Nat.le_succ j)), fun i hi => h.rest i (by omega)⟩
theorem SubT.new {α : Type} {Z Y : List α} {q j : Nat} {p : α} (h : SubT Z Y q j) (hp : Y[j]? = some p) (hqj : q < j) : SubT Z (Y.set q p) (q + 1) (j + 1) := by
  have hz := (h.rest j (by omega)).symm.trans hp
  obtain ⟨hjl, rfl⟩ := List.getElem?_eq_some_iff.1 hz
  have hyl := (List.getElem?_eq_some_iff.1 hp).1
  refine ⟨?_, fun i hi => ?_⟩
  · rw [List.take_succ_eq_append_getElem (by simp; omega), List.take_set_of_le (by omega), List.take_succ_eq_append_getElem hjl]
    refine List.Sublist.append h.sub ?_
    simp
  · rw [List.getElem?_set_ne (by omega)]
    exact h.rest i (by omega)
theorem SubT.done {α : Type} {Z Y : List α} {q j : Nat} (h : SubT Z Y q j) : (Y.take q).Sublist Z := h.sub.trans (List.take_sublist _ _)
abbrev PL := Sl × List Int
structure PV (w : World) (B : Nat) (e2 : TypeId) (g n c : Nat) (Z : List PL) : Prop where
  os : OS w B e2 1 (some ⟨g, 0, none⟩) n c (Z.map fun p => slv p.1)
  rows : ∀ p ∈ Z, p.1.2.1 ≤ p.1.2.2 ∧ p.1.2.2 ≤ 9223372036854775807 ∧ RI w p.1.1 p.1.2.1 p.2 ∧ blk p.1.1 ≠ some g
section
variable {w w' : World} {B : Nat} {e2 : TypeId} {g n c : Nat} {Z : List PL}
theorem RI.kept {A : Option Addr} {m : Nat} {z : List Int} (h : RI w A m z) (hg : w.grownBy w' (some g)) (hne : blk A ≠ some g) : RI w' A m z :=
  ⟨h.len, fun j x hx => by
    obtain ⟨ad, u, ha, hc, he⟩ := RS.at_ h j x hx
    refine ⟨ad, u, ha, ?_, he⟩
    have hb := block_lt hc
    have hblk : (ad.add j).block ≠ g := fun e => hne (by rw [ha]; simp [blk]; rw [← add_block ad j]; exact e)
    have := hg.block _ hb (by intro e; injection e with e; exact hblk e)
    unfold World.cell? at hc ⊢
    rw [this]
    exact hc⟩
theorem PV.len (h : PV w B e2 g n c Z) : Z.length = n := by have := h.os.len; simpa using this
theorem PV.drewN (h : PV w B e2 g n c Z) (q : Nat) : PV (w.drewN q) B e2 g n c Z := ⟨h.os.drewN q, fun p hp => let ⟨a, b, d, e⟩ := h.rows p hp; ⟨a, b, d.keep (below_drewn w q), e⟩⟩
theorem PV.get (h : PV w B e2 g n c Z) {k : Nat} (hk : k < n) : ∃ p, Z[k]? = some p ∧ w.cell? ⟨g, k, none⟩ = some (.slice p.1.1 p.1.2.1 p.1.2.2) ∧ w.frozen? ⟨g, k, none⟩ = false ∧
    p.1.2.1 ≤ p.1.2.2 ∧ p.1.2.2 ≤ 9223372036854775807 ∧ RI w p.1.1 p.1.2.1 p.2 ∧ p.2 = row (Z.map (·.2)) k := by
  have hl : k < Z.length := by rw [h.len]; exact hk
  have hz := List.getElem?_eq_getElem hl
  obtain ⟨g', e1, hc, hf⟩ := h.os.cell (j := k) (u := slv Z[k].1) (by rw [List.getElem?_map, hz]; rfl)
  injection e1 with e1
  injection e1 with e1
  subst e1
  obtain ⟨a, b, d, _⟩ := h.rows _ (List.getElem_mem hl)
  exact ⟨_, hz, hc, hf, a, b, d, by rw [row_get (by simpa using hl)]; simp⟩
theorem PV.set (h : PV w B e2 g n c Z) (q : Nat) {p : PL} (hp : p ∈ Z) : PV (w.setCell ⟨g, q, none⟩ (.slice p.1.1 p.1.2.1 p.1.2.2)) B e2 g n c (Z.set q p) := by
  refine ⟨?_, fun u hu => ?_⟩
  · have := h.os.set q (slv p.1)
    rwa [show (Z.map fun p => slv p.1).set q (slv p.1) = (Z.set q p).map fun p => slv p.1 by rw [List.map_set]] at this
  · have hu' : u ∈ Z := (List.mem_or_eq_of_mem_set hu).elim id (fun e => e ▸ hp)
    obtain ⟨a, b, d, e⟩ := h.rows u hu'
    exact ⟨a, b, d.kept (grown_set (g := g)) e, e⟩
theorem PV.cut {k : Nat} (h : PV w B e2 g n c Z) (hg : w.grownBy w' (some g)) (ho : OS w' B e2 1 (some ⟨g, 0, none⟩) k c ((Z.map fun p => slv p.1).take k)) : PV w' B e2 g k c (Z.take k) :=
  ⟨by rwa [← List.map_take] at ho, fun p hp => let ⟨a, b, d, e⟩ := h.rows p (List.mem_of_mem_take hp); ⟨a, b, d.kept hg e, e⟩⟩
end
set_option maxRecDepth 100000 in
set_option maxHeartbeats 2000000 in
theorem compactR_sub (B g n c : Nat) (Z : List PL) (w : World) (ho : PV w B 22 g n c Z) (hn : n ≤ 1048576) (hgl : g < w.heap.size) :
    Calls Tryz.prog 86 #[.slice (some ⟨g, 0, none⟩) n c, .func (.func 71) #[] #[]] w (fun e w' => ∃ m Y, e = .returned (.slice (some ⟨g, 0, none⟩) m c) ∧ PV w' B 22 g m c Y ∧ Y.map (·.2) = comp (Z.map (·.2)) ∧ Y.Sublist Z ∧ w.grownBy w' (some g)) := by
  have hlen := ho.len
  generalize hD : Z.map (·.2) = D at *
  have hla := Lib.hid (show D.length = n by rw [← hD, List.length_map]; exact hlen)
  have HD := Lib.hid hD
  clear hD
  have hcap := ho.os.cap
  have hz0 : ∀ w, (zeroValue 22).run Tryz.prog w = .ok (.slice none 0 0) w := fun _ => by kernel_rfl
  by_cases h2 : n < 2
  · have HC := Lib.hid (comp_short (l := D) (by rw [hla.out]; exact h2))
    clear hz0
    go_enter Tryz.func86, Tryz.ntmps86
    go_wp2
    go_ret
    exact ⟨n, Z, rfl, ho, by rw [HC.out, HD.out], List.Sublist.refl _, World.grownBy.refl _ _⟩
  · go_enter Tryz.func86, Tryz.ntmps86
    go_wp2
    go_loopw [5] (fun i wr => ∃ k : Nat, k + 1 ≤ n ∧ i = .int .i64 ((k : Int) + 1) ∧ Drawn w wr ∧ noneSameR D (k + 1)) (fun i _ => n - (intOf i).toNat)
    case atStart => exact ⟨0, by omega, rfl, Drawn.refl _, fun i hi => by omega⟩
    case round =>
      obtain ⟨k, hk, rfl, hd, hs⟩ := hrel
      have hod : PV wr B 22 g n c Z := by obtain ⟨q, rfl⟩ := hd; exact ho.drewN q
      by_cases hlt : k + 1 < n
      · have hlt2 : decide ((k : Int) + 1 < (n : Int)) = true := by simp; omega
        obtain ⟨⟨⟨A1, n1, c1⟩, z1⟩, hm1, hc1, hf1, ha1, hb1, hr1, he1⟩ := hod.get (k := k + 1) hlt
        obtain ⟨⟨⟨A0, n0, c0⟩, z0⟩, hm0, hc0, hf0, ha0, hb0, hr0, he0⟩ := hod.get (k := k) (by omega)
        rw [HD.out] at he1 he0
        simp only at hc1 ha1 hb1 hr1 he1 hc0 ha0 hb0 hr0 he0
        have hcmp := fun q => slicesEqual_any A1 A0 n1 n0 c1 c0 z1 z0 (wr.drewN q) (hr1.drewN q) (hr0.drewN q) (by omega) (by omega)
        by_cases he : z1 = z0
        · have HT := Lib.hid (compTR_start hs (by rw [hla.out]; exact hlt) (by rw [← he1, ← he0, he]))
          have he' : decide (z1 = z0) = true := by simp [he]
          have hg0 : w.grownBy wr (some g) := by obtain ⟨q, rfl⟩ := hd; exact ⟨rfl, rfl, rfl, Nat.le_refl _, fun _ _ _ => rfl⟩
          rw [he'] at hcmp
          clear he hs he'
          go_wp2
          go_quiet ((go_at_call 71; exact Quiet.call (hcmp _)))
          go_wp2
          have hod2 : PV (wr.drewN nq) B 22 g n c Z := hod.drewN nq
          have hg2 : w.grownBy (wr.drewN nq) (some g) := ⟨hg0.os, hg0.tape, hg0.output, hg0.size, hg0.block⟩
          clear hod hg0 hc1 hc0 hf1 hf0 hcmp hr1 hr0 hm1 hm0 he1 he0 ha1 ha0 hb1 hb0
          generalize wr.drewN nq = wv at *
          clear hd
          go_loopw [5, 7] (fun t i w2 => ∃ (q j : Nat) (Y : List PL), t = .int .i64 q ∧ i = .int .i64 ((j : Int) + 1) ∧ k + 1 + (j + 1) ≤ n ∧ CompT D (Y.map (·.2)) q (k + 1 + (j + 1)) ∧ SubT Z Y q (k + 1 + (j + 1)) ∧ PV w2 B 22 g n c Y ∧ w.grownBy w2 (some g)) (fun _ i _ => n - (intOf i).toNat)
          case atStart => exact ⟨k + 1, 0, Z, rfl, rfl, by omega, by rw [HD.out]; exact HT.out, SubT.start _ _ _ (by omega), hod2, hg2⟩
          case round =>
            clear hod2 hg2
            obtain ⟨q, j, Y, rfl, rfl, hjn, hT, hSub, hoz, hgz⟩ := hrel
            have hSub := Lib.hid hSub
            have hqj := hT.kj
            by_cases hjl : k + 1 + (j + 1) < n
            · have hjl2 : decide ((j : Int) + 1 < ((n - (k + 1) : Nat) : Int)) = true := by simp; omega
              obtain ⟨⟨⟨A1, n1, c1⟩, z1⟩, hm1, hc1, hf1, ha1, hb1, hr1, he1⟩ := hoz.get (k := k + 1 + (j + 1)) hjl
              obtain ⟨⟨⟨A0, n0, c0⟩, z0⟩, hm0, hc0, hf0, ha0, hb0, hr0, he0⟩ := hoz.get (k := k + 1 + j) (by omega)
              obtain ⟨pq, hmq, hcq, hfq, _⟩ := hoz.get (k := q) (by omega)
              rw [show row (Y.map (·.2)) (k + 1 + (j + 1)) = row D (k + 1 + (j + 1)) by unfold row List.getD; rw [hT.rest _ (by omega)]] at he1
              rw [show row (Y.map (·.2)) (k + 1 + j) = row D (k + 1 + j) by unfold row List.getD; rw [hT.rest _ (by omega)]] at he0
              simp only at hc1 ha1 hb1 hr1 he1 hc0 ha0 hb0 hr0 he0
              have hcmp := fun t => slicesEqual_any A1 A0 n1 n0 c1 c0 z1 z0 (wr.drewN t) (hr1.drewN t) (hr0.drewN t) (by omega) (by omega)
              by_cases he : z1 = z0
              · have HT2 := Lib.hid (compTR_same (j := k + 1 + j) hT (by rw [hla.out]; exact hjl) (by rw [show k + 1 + j + 1 = k + 1 + (j + 1) by omega, ← he1, ← he0, he]))
                have he' : decide (z1 = z0) = true := by simp [he]
                rw [he'] at hcmp
                have HO := Lib.hid (fun t => hoz.drewN t : ∀ t, PV (wr.drewN t) B 22 g n c Y)
                clear he he' hT hoz hcq hfq hm1 hm0 hmq he1 he0
                go_wp2
                go_quiet ((go_at_call 71; exact Quiet.call (hcmp _)))
                go_wp2
                have ho3 := HO.out nq
                have hg3 : w.grownBy (wr.drewN nq) (some g) := ⟨hgz.os, hgz.tape, hgz.output, hgz.size, hgz.block⟩
                go_roundw
                case rel => exact ⟨q, j + 1, Y, rfl, by go_num, by omega, HT2.out, hSub.out.same, ho3, hg3⟩
                case measure => simp [intOf]; omega
              · have HT2 := Lib.hid (compTR_new (j := k + 1 + j) hT (by rw [hla.out]; exact hjl) (by rw [show k + 1 + j + 1 = k + 1 + (j + 1) by omega, ← he1, ← he0]; exact he))
                have he' : decide (z1 = z0) = false := by simp [he]
                rw [he'] at hcmp
                have HO := Lib.hid (fun t => (hoz.drewN t).set q (List.mem_of_getElem? hm1) : ∀ t, PV ((wr.drewN t).setCell ⟨g, q, none⟩ (.slice A1 n1 c1)) B 22 g n c (Y.set q ((A1, n1, c1), z1)))
                have hSub2 := Lib.hid (hSub.out.new hm1 (by omega))
                have HM := Lib.hid (show (Y.set q ((A1, n1, c1), z1)).map (·.2) = (Y.map (·.2)).set q (row D (k + 1 + (j + 1))) by rw [List.map_set, ← he1])
                clear he he' hT hoz hm1 hm0 hmq he1 he0
                go_wp2
                go_quiet ((go_at_call 71; exact Quiet.call (hcmp _)))
                go_wp2
                have ho3 := HO.out nq
                have hg3 : w.grownBy ((wr.drewN nq).setCell ⟨g, q, none⟩ (.slice A1 n1 c1)) (some g) := (show w.grownBy (wr.drewN nq) (some g) from ⟨hgz.os, hgz.tape, hgz.output, hgz.size, hgz.block⟩).trans grown_set
                go_roundw
                case rel => exact ⟨q + 1, j + 1, _, by go_num, by go_num, by omega, by rw [HM.out]; exact HT2.out, hSub2.out, ho3, hg3⟩
                case measure => simp [intOf]; omega
            · have hend := CompT.done (k := q) (by rw [hla.out]; rwa [show k + 1 + (j + 1) = n by omega] at hT)
              have HE := Lib.hid hend
              have hq : q < n := by omega
              clear hT hend
              go_wp2_with (refine wpList_clear _ rfl (.tmp 61) 25 rfl 22 (.slice none 0 0) Tryz.underlying25 hz0 rfl rfl B g q n (n - q) c (c - q) _ hoz.os rfl (by omega) (by omega) ?_; intro w5 ho5 hg5)
              have ho6 := hoz.cut hg5 ho5
              go_wp2
              go_ret
              exact ⟨q, _, rfl, ho6, by rw [List.map_take]; exact HE.out.1, hSub.out.done, hgz.trans hg5⟩
        · have HS := Lib.hid (noneSameR_step (k := k + 1) hs (by omega) (by rw [show k + 1 - 1 = k by omega, ← he1, ← he0]; exact he))
          have he' : decide (z1 = z0) = false := by simp [he]
          rw [he'] at hcmp
          clear he hs he'
          go_wp2
          go_quiet ((go_at_call 71; exact Quiet.call (hcmp _)))
          go_wp2
          go_roundw
          case rel => exact ⟨k + 1, by omega, by go_num, hd.more _, HS.out⟩
          case measure => simp [intOf]; omega
      · have HC := Lib.hid (noneSameR_comp (zs := D) (by rw [hla.out, show n = k + 1 by omega]; exact hs))
        have hg0 : w.grownBy wr (some g) := by obtain ⟨q, rfl⟩ := hd; exact ⟨rfl, rfl, rfl, Nat.le_refl _, fun _ _ _ => rfl⟩
        clear hs
        go_wp2
        go_ret
        exact ⟨n, Z, rfl, hod, by rw [HC.out, HD.out], List.Sublist.refl _, hg0⟩
theorem compactR_any (B g n c : Nat) (Z : List PL) (w : World) (ho : PV w B 22 g n c Z) (hn : n ≤ 1048576) (hgl : g < w.heap.size) :
    Calls Tryz.prog 86 #[.slice (some ⟨g, 0, none⟩) n c, .func (.func 71) #[] #[]] w (fun e w' => ∃ m Y, e = .returned (.slice (some ⟨g, 0, none⟩) m c) ∧ PV w' B 22 g m c Y ∧ Y.map (·.2) = comp (Z.map (·.2)) ∧ w.grownBy w' (some g)) :=
  (compactR_sub B g n c Z w ho hn hgl).mono fun _ _ ⟨m, Y, h1, h2, h3, _, h5⟩ => ⟨m, Y, h1, h2, h3, h5⟩
theorem comp_srt (zs : List Int) : comp (srt zs) = setG sgnI zs := setG_comp sgnI_ord (srt_sorted zs) fun x => srt_mem zs x
set_option maxRecDepth 100000 in
set_option maxHeartbeats 1000000 in
theorem cellCount_any (A : Option Addr) (n c : Nat) (zs : List Int) (w : World) (ha : RI w A n zs) (hn : n ≤ 1048576) :
    Calls Tryz.prog 236 #[.slice A n c] w (fun e w' => e = .returned (.int .i64 (manyP zs)) ∧ Below w.heap.size w w') := by
  have hla := Lib.hid ha.len
  go_enter Tryz.func236, Tryz.ntmps236
  go_wp2_with fail
  refine (clone_any A n c zs w ha (by omega)).mono ?_
  rintro e w1 ⟨A1, n1, c1, rfl, ho1, hb1⟩
  obtain rfl : n1 = n := by rw [← ho1.len, hla.out]
  go_wp2_with fail
  refine (sort_any w.heap.size 2 A1 n1 c1 zs w1 ho1 (by omega)).mono ?_
  rintro e w2 ⟨rfl, ho2, hg2⟩
  have hw2 := below_own hb1 hg2 hb1.size (fun b hb => (ho1.os.lt hb).1)
  clear ho1 hb1 hg2
  go_wp2_with fail
  refine (compactI_any w.heap.size A1 n1 c1 (srt zs) w2 ho2 hn).mono ?_
  rintro e w3 ⟨m, rfl, ho3, hg3⟩
  have hw3 := below_own hw2 hg3 hw2.size (fun b hb => (ho2.os.lt hb).1)
  have hml := Lib.hid ho3.len
  clear ho2 hw2 hg3
  go_wp2
  go_ret
  exact ⟨ret_int (by unfold manyP; rw [← comp_srt, hml.out]), hw3⟩
end Go.Proofs.YtdkbcjdimhgmnaaGreat
