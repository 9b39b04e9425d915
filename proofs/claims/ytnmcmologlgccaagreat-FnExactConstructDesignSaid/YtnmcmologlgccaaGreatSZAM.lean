/- slices.Compact on numbers that a call owns (without the texts on graphs). No condition beyond those stated. -/
import Derived.Test.YtnmcmologlgccaaGreatSZAL
import Derived.Lib.SliceRun
set_option linter.unusedVariables false
set_option linter.unusedSimpArgs false
namespace Go.Proofs.YtnmcmologlgccaaGreat
open Go.RowKit
section
variable {w w' : World} {B : Nat} {e : TypeId} {size g n c k : Nat} {xs : List Value}
theorem OS.cut (h : OS w B e 1 (some ⟨g, 0, none⟩) n c xs) (hk : k ≤ n) : OS w B e 1 (some ⟨g, 0, none⟩) k c (xs.take k) := by
  rcases h.cases with ⟨h0, _⟩ | ⟨g', cur, h0, hB, hg, hnc, hc, hs, ht⟩
  · cases h0
  · injection h0 with h0
    injection h0 with h0
    subst h0
    refine ⟨by have := h.len; simp; omega, .inr ⟨g, c, cur, rfl, hB, hg, by omega, hc, hs, ?_⟩⟩
    rw [← ht, Nat.mul_one, Nat.mul_one, List.take_take, Nat.min_eq_left hk]
theorem OS.cleared (vs : List Value) : ∀ {w : World} {xs : List Value} (o : Nat), OS w B e 1 (some ⟨g, 0, none⟩) n c xs → k ≤ o → ∃ ys, OS (w.setCells g o vs) B e 1 (some ⟨g, 0, none⟩) n c ys ∧ ys.take k = xs.take k ∧ w.grownBy (w.setCells g o vs) (some g) := by
  induction vs with
  | nil => intro w xs o h _; exact ⟨xs, h, rfl, World.grownBy.refl _ _⟩
  | cons v r ih =>
    intro w xs o h hk
    obtain ⟨ys, h1, h2, h3⟩ := ih (o + 1) (h.set o v) (by omega)
    exact ⟨ys, h1, by rw [h2, List.take_set_of_le (by omega)], grown_set.trans h3⟩
end
section
variable {P : Program} {ops : Array Oper} {rest : List Oper} {o : Oper} {a : Act} {Q : Exit → Act → World → Prop}
theorem wpList_clear (w : World) (hgd : o.guard = none) (x : Operand) (t : TypeId) (ho : o.op = .call { callee := .builtin .clear, args := #[x], argTypes := #[t] }) (e : TypeId) (z : Value)
    (ht : P.underlying t = some (.slice e)) (hv : ∀ w, (zeroValue e).run P w = .ok z w) (hz : z.cells = #[z]) (h1 : z.oneCell' = true) (B g k n m c c' : Nat) (xs : List Value) (hown : OS w B e 1 (some ⟨g, 0, none⟩) n c xs)
    (hx : a.eval x = .slice (some ⟨g, k, none⟩) m c') (hm : 0 < m) (hkm : k + m = n)
    (h : ∀ w', OS w' B e 1 (some ⟨g, 0, none⟩) k c (xs.take k) → w.grownBy w' (some g) → wpList P ops Q rest (a.put o.dst (.tuple #[])) w') :
    wpList P ops Q (o :: rest) a w := by
  have hl := hown.len
  have hcell : ∀ j, j < m → (w.cell? ⟨g, k + j, none⟩).isSome = true ∧ w.frozen? ⟨g, k + j, none⟩ = false := fun j hj => by
    have hlt : k + j < xs.length := by omega
    obtain ⟨g', e1, h2, h3⟩ := hown.cell (List.getElem?_eq_getElem hlt)
    injection e1 with e1
    injection e1 with e1
    subst e1
    exact ⟨by rw [h2]; rfl, h3⟩
  have hrun := Lib.run_clear_slice (P := P) w t e o.type z ht hv hz h1 g k m c' hm (fun j hj => (hcell j hj).1) (fun j hj => (hcell j hj).2)
  obtain ⟨ys, h2, h3, h4⟩ := OS.cleared (k := k) (List.replicate m z) k hown (Nat.le_refl _)
  refine wpList_plain hgd fun K hK => ?_
  unfold Oper.wp execOp
  simp only [ho, resolve, invoke, builtin, Sem.run_bind, Sem.run_pure, Result.andThen_ok, List.map_toArray, List.map_cons, List.map_nil, hx, hrun]
  exact hK _ _ (h _ (by rw [← h3]; exact h2.cut (by omega)) h4)
end
theorem comp_short {α : Type} [DecidableEq α] {l : List α} (h : l.length < 2) : comp l = l := comp_same fun k hk => by omega
def noneSame (zs : List Int) (k : Nat) : Prop := ∀ (i : Nat), i + 1 < k → nth zs (i + 1) ≠ nth zs i
theorem noneSame_step {zs : List Int} {k : Nat} (h : noneSame zs k) (hk : 0 < k) (hne : nth zs k ≠ nth zs (k - 1)) : noneSame zs (k + 1) := fun i hi => by
  rcases Nat.lt_succ_iff_lt_or_eq.1 hi with h1 | h1
  · exact h i h1
  · have e : i = k - 1 := by omega
    subst e
    rw [show k - 1 + 1 = k by omega]
    exact hne
theorem noneSame_comp {zs : List Int} (h : noneSame zs zs.length) : comp zs = zs := comp_same fun k hk => by
  have := h k hk
  rwa [nth_get hk, nth_get (by omega)] at this
theorem compT_start {zs : List Int} {k : Nat} (h : noneSame zs (k + 1)) (hk : k + 1 < zs.length) (he : nth zs (k + 1) = nth zs k) : CompT zs zs (k + 1) (k + 1 + 1) := by
  rw [nth_get hk, nth_get (by omega)] at he
  refine CompT.start hk (fun i hi hd => ?_) he
  have := h i (by omega)
  rwa [nth_get hd, nth_get (by omega)] at this
theorem compT_nth {d z : List Int} {k j i : Nat} (h : CompT d z k j) (hi : j ≤ i + 1) : nth z i = nth d i := by
  unfold nth List.getD
  rw [h.rest i hi]
theorem compT_same {d z : List Int} {k j : Nat} (h : CompT d z k (j + 1)) (hj : j + 1 < d.length) (he : nth d (j + 1) = nth d j) : CompT d z k (j + 1 + 1) := by
  rw [nth_get hj, nth_get (by omega)] at he
  exact h.same hj he
theorem compT_new {d z : List Int} {k j : Nat} (h : CompT d z k (j + 1)) (hj : j + 1 < d.length) (he : nth d (j + 1) ≠ nth d j) : CompT d (z.set k (nth d (j + 1))) (k + 1) (j + 1 + 1) := by
  rw [nth_get hj, nth_get (by omega)] at he
  rw [nth_get hj]
  exact h.new hj he
set_option maxRecDepth 100000 in
set_option maxHeartbeats 2000000 in
theorem compactI_any (B : Nat) (A : Option Addr) (n c : Nat) (zs : List Int) (w : World) (ho : OI w B 2 A n c zs) (hn : n ≤ 1048576) :
    Calls Tryz.prog 204 #[.slice A n c] w (fun e w' => ∃ m, e = .returned (.slice A m c) ∧ OI w' B 2 A m c (comp zs) ∧ w.grownBy w' (blk A)) := by
  have hla := Lib.hid ho.len
  have hcap := ho.os.cap
  have hz0 : ∀ w, (zeroValue 2).run Tryz.prog w = .ok (.int .i64 0) w := fun _ => by kernel_rfl
  by_cases h2 : n < 2
  · have HC := Lib.hid (comp_short (l := zs) (by rw [hla.out]; exact h2))
    clear hz0
    go_enter Tryz.func204, Tryz.ntmps204
    go_wp2
    go_ret
    exact ⟨n, rfl, by rw [HC.out]; exact ho, World.grownBy.refl _ _⟩
  · obtain ⟨g, rfl, hgB, hgl⟩ := ho.os.form (by omega)
    go_enter Tryz.func204, Tryz.ntmps204
    go_wp2
    go_loopw [3] (fun i wr => ∃ k : Nat, k + 1 ≤ n ∧ i = .int .i64 ((k + 1 : Nat) : Int) ∧ Drawn w wr ∧ noneSame zs (k + 1)) (fun i _ => n - (intOf i).toNat)
    case atStart => exact ⟨0, by omega, rfl, Drawn.refl _, fun i hi => by omega⟩
    case round =>
      obtain ⟨k, hk, rfl, hd, hs⟩ := hrel
      by_cases hlt : k + 1 < n
      · have hod : OI wr B 2 (some ⟨g, 0, none⟩) n c zs := by obtain ⟨q, rfl⟩ := hd; exact ho.drewN q
        obtain ⟨g1, e1, hc1, hf1, hi1⟩ := hod.cell (k := k + 1) hlt
        obtain ⟨g2, e2, hc0, hf0, hi0⟩ := hod.cell (k := k) (by omega)
        injection e1 with e1; injection e1 with e1; subst e1
        injection e2 with e2; injection e2 with e2; subst e2
        by_cases he : nth zs (k + 1) = nth zs k
        · have HT := Lib.hid (compT_start hs (by rw [hla.out]; exact hlt) he)
          have he' : (nth zs (k + 1) == nth zs k) = true := by simp [he]
          have hg0 : w.grownBy wr (some g) := by obtain ⟨q, rfl⟩ := hd; exact ⟨rfl, rfl, rfl, Nat.le_refl _, fun _ _ _ => rfl⟩
          clear he hs
          go_wp2
          go_quiet (fail)
          go_wp2
          have hod2 : OI (wr.drewN nq) B 2 (some ⟨g, 0, none⟩) n c zs := hod.drewN nq
          have hg2 : w.grownBy (wr.drewN nq) (some g) := ⟨hg0.os, hg0.tape, hg0.output, hg0.size, hg0.block⟩
          clear hod hg0 hc1 hc0 hf1 hf0
          generalize wr.drewN nq = wv at *
          clear hd
          go_loopw [3, 5] (fun t i w2 => ∃ (q j : Nat) (z : List Int), t = .int .i64 q ∧ i = .int .i64 ((j + 1 : Nat) : Int) ∧ k + 1 + (j + 1) ≤ n ∧ CompT zs z q (k + 1 + (j + 1)) ∧ OI w2 B 2 (some ⟨g, 0, none⟩) n c z ∧ w.grownBy w2 (some g)) (fun _ i _ => n - (intOf i).toNat)
          case atStart => exact ⟨k + 1, 0, zs, rfl, rfl, by omega, HT.out, hod2, hg2⟩
          case round =>
            clear hod2 hg2
            obtain ⟨q, j, z, rfl, rfl, hjn, hT, hoz, hgz⟩ := hrel
            have hqj := hT.kj
            by_cases hjl : k + 1 + (j + 1) < n
            · obtain ⟨g1, e1, hc1, hf1, hi1⟩ := hoz.cell (k := k + 1 + (j + 1)) hjl
              obtain ⟨g2, e2, hc0, hf0, hi0⟩ := hoz.cell (k := k + 1 + j) (by omega)
              obtain ⟨g3, e3, hcq, hfq, hiq⟩ := hoz.cell (k := q) (by omega)
              injection e1 with e1; injection e1 with e1; subst e1
              injection e2 with e2; injection e2 with e2; subst e2
              injection e3 with e3; injection e3 with e3; subst e3
              rw [compT_nth hT (by omega)] at hc1 hi1
              rw [compT_nth hT (by omega)] at hc0 hi0
              by_cases he : nth zs (k + 1 + (j + 1)) = nth zs (k + 1 + j)
              · have HT2 := Lib.hid (compT_same (j := k + 1 + j) hT (by rw [hla.out]; exact hjl) he)
                have he' : (nth zs (k + 1 + (j + 1)) != nth zs (k + 1 + j)) = false := by simp [he]
                have ho2 := fun t => hoz.drewN t
                have HO := Lib.hid ho2
                clear he hT ho2 hoz hcq hfq hiq
                go_wp2
                go_quiet (fail)
                go_wp2
                have ho3 := HO.out nq
                have hg3 : w.grownBy (wr.drewN nq) (some g) := ⟨hgz.os, hgz.tape, hgz.output, hgz.size, hgz.block⟩
                go_roundw
                case rel => exact ⟨q, j + 1, z, rfl, by go_num, by omega, HT2.out, ho3, hg3⟩
                case measure => simp [intOf]; omega
              · have HT2 := Lib.hid (compT_new (j := k + 1 + j) hT (by rw [hla.out]; exact hjl) he)
                have he' : (nth zs (k + 1 + (j + 1)) != nth zs (k + 1 + j)) = true := by simpa using he
                have ho2 := fun t => (hoz.drewN t).set q hi1
                have HO := Lib.hid ho2
                clear he hT ho2 hoz
                go_wp2
                go_quiet (fail)
                go_wp2
                have ho3 := HO.out nq
                have hg3 : w.grownBy ((wr.drewN nq).setCell ⟨g, q, none⟩ (.int .i64 (nth zs (k + 1 + (j + 1))))) (some g) := (show w.grownBy (wr.drewN nq) (some g) from ⟨hgz.os, hgz.tape, hgz.output, hgz.size, hgz.block⟩).trans grown_set
                go_roundw
                case rel => exact ⟨q + 1, j + 1, _, by go_num, by go_num, by omega, HT2.out, ho3, hg3⟩
                case measure => simp [intOf]; omega
            · have hend := CompT.done (k := q) (by rw [hla.out]; rwa [show k + 1 + (j + 1) = n by omega] at hT)
              have HE := Lib.hid hend
              have hq : q < n := by omega
              have hall := hoz.all
              have HAL := Lib.hid hall
              clear hT hend hall
              go_wp2_with (refine wpList_clear _ rfl (.tmp 56) 36 rfl 2 (.int .i64 0) Tryz.underlying36 hz0 rfl rfl B g q n (n - q) c (c - q) _ hoz.os rfl (by omega) (by omega) ?_; intro w5 ho5 hg5)
              have ho6 := OI.of_os ho5 HAL.out
              rw [HE.out.1] at ho6
              go_wp2
              go_ret
              exact ⟨q, rfl, ho6, hgz.trans hg5⟩
        · have HS := Lib.hid (noneSame_step (k := k + 1) hs (by omega) (by simpa using he))
          have he' : (nth zs (k + 1) == nth zs k) = false := by simp [he]
          clear he hs hod
          go_wp2
          go_quiet (fail)
          go_wp2
          go_roundw
          case rel => exact ⟨k + 1, by omega, by go_num, hd.more _, HS.out⟩
          case measure => simp [intOf]; omega
      · have HC := Lib.hid (noneSame_comp (zs := zs) (by rw [hla.out, show n = k + 1 by omega]; exact hs))
        have hod : OI wr B 2 (some ⟨g, 0, none⟩) n c zs := by obtain ⟨q, rfl⟩ := hd; exact ho.drewN q
        have hg0 : w.grownBy wr (some g) := by obtain ⟨q, rfl⟩ := hd; exact ⟨rfl, rfl, rfl, Nat.le_refl _, fun _ _ _ => rfl⟩
        clear hs
        go_wp2
        go_ret
        exact ⟨n, rfl, by rw [HC.out]; exact hod, hg0⟩
def sumN : Nat → (Nat → Int) → Int
  | 0, _ => 0
  | n + 1, f => sumN n f + f n
theorem sumN_congr {n : Nat} {f g : Nat → Int} (h : ∀ i, i < n → f i = g i) : sumN n f = sumN n g := by
  induction n with
  | zero => rfl
  | succ n ih => rw [sumN, sumN, ih fun i hi => h i (by omega), h n (by omega)]
theorem sumN_zero {n : Nat} {f : Nat → Int} (h : ∀ i, i < n → f i = 0) : sumN n f = 0 := by
  induction n with
  | zero => rfl
  | succ n ih => rw [sumN, ih fun i hi => h i (by omega), h n (by omega)]; rfl
theorem sumN_add (n : Nat) (f g : Nat → Int) : sumN n (fun i => f i + g i) = sumN n f + sumN n g := by
  induction n with
  | zero => rfl
  | succ n ih => rw [sumN, sumN, sumN, ih]; omega
theorem sumN_mul (n : Nat) (c : Int) (f : Nat → Int) : sumN n (fun i => c * f i) = c * sumN n f := by
  induction n with
  | zero => simp [sumN]
  | succ n ih => rw [sumN, sumN, ih, Int.mul_add]
theorem sumN_sub (n : Nat) (f g : Nat → Int) : sumN n (fun i => f i - g i) = sumN n f - sumN n g := by
  induction n with
  | zero => rfl
  | succ n ih => rw [sumN, sumN, sumN, ih]; omega
theorem sumN_more {n m : Nat} (h : n ≤ m) {f : Nat → Int} (hz : ∀ i, n ≤ i → i < m → f i = 0) : sumN m f = sumN n f := by
  induction m with
  | zero => obtain rfl : n = 0 := by omega
            rfl
  | succ m ih =>
    by_cases e : n = m + 1
    · rw [e]
    · rw [sumN, hz m (by omega) (by omega), ih (by omega) fun i h1 h2 => hz i h1 (by omega), Int.add_zero]
theorem sumN_one {n k : Nat} (hk : k < n) {f : Nat → Int} (h : ∀ i, i < n → i ≠ k → f i = 0) : sumN n f = f k := by
  induction n with
  | zero => omega
  | succ n ih =>
    by_cases e : k = n
    · subst e
      rw [sumN, sumN_zero fun i hi => h i (by omega) (by omega), Int.zero_add]
    · rw [sumN, ih (by omega) fun i hi => h i (by omega), h n (by omega) (by omega), Int.add_zero]
theorem sumN_at {n k : Nat} (hk : k < n) (c : Int) : sumN n (fun t => if t = k then c else 0) = c := by
  rw [sumN_one hk (fun t _ e => if_neg e), if_pos rfl]
def Cg (p a b : Int) : Prop := ∃ t : Int, a = b + p * t
theorem Cg.rfl_ (p a : Int) : Cg p a a := ⟨0, by omega⟩
theorem Cg.of_eq {p a b : Int} (h : a = b) : Cg p a b := h ▸ Cg.rfl_ p a
theorem Cg.symm {p a b : Int} (h : Cg p a b) : Cg p b a := by
  obtain ⟨t, rfl⟩ := h
  exact ⟨-t, by rw [Int.mul_neg]; omega⟩
theorem Cg.trans {p a b c : Int} (h : Cg p a b) (k : Cg p b c) : Cg p a c := by
  obtain ⟨t, rfl⟩ := h
  obtain ⟨u, rfl⟩ := k
  exact ⟨u + t, by rw [Int.mul_add]; omega⟩
theorem Cg.add {p a b c d : Int} (h : Cg p a b) (k : Cg p c d) : Cg p (a + c) (b + d) := by
  obtain ⟨t, rfl⟩ := h
  obtain ⟨u, rfl⟩ := k
  exact ⟨t + u, by rw [Int.mul_add]; omega⟩
theorem Cg.mul_left {p a b : Int} (h : Cg p a b) (c : Int) : Cg p (c * a) (c * b) := by
  obtain ⟨t, rfl⟩ := h
  exact ⟨c * t, by rw [Int.mul_add, Int.mul_left_comm]⟩
theorem Cg.mul_right {p a b : Int} (h : Cg p a b) (c : Int) : Cg p (a * c) (b * c) := by
  rw [Int.mul_comm a, Int.mul_comm b]; exact h.mul_left c
theorem Cg.neg {p a b : Int} (h : Cg p a b) : Cg p (-a) (-b) := by
  have := h.mul_left (-1)
  simpa using this
theorem Cg.sub {p a b c d : Int} (h : Cg p a b) (k : Cg p c d) : Cg p (a - c) (b - d) := by
  have := h.add k.neg
  simpa [Int.sub_eq_add_neg] using this
theorem Cg.mod (p a : Int) : Cg p (a % p) a := ⟨-(a / p), by rw [Int.mul_neg]; have := Int.mul_ediv_add_emod a p; omega⟩
theorem Cg.iff {p a b : Int} : Cg p a b ↔ a % p = b % p := by
  constructor
  · rintro ⟨t, rfl⟩
    exact Int.add_mul_emod_self_left b p t
  · intro h
    exact (Cg.mod p a).symm.trans ((Cg.of_eq h).trans (Cg.mod p b))
def linF (u : List Int) (ψ : Nat → Int) : Int := sumN u.length fun t => nth u t * ψ t
theorem nth_beyond {u : List Int} {t : Nat} (h : u.length ≤ t) : nth u t = 0 := by simp [nth, List.getD, List.getElem?_eq_none h]
theorem linF_more {u : List Int} {n : Nat} (h : u.length ≤ n) (ψ : Nat → Int) : sumN n (fun t => nth u t * ψ t) = linF u ψ :=
  sumN_more h fun i hi _ => by rw [nth_beyond hi, Int.zero_mul]
theorem nth_setI {u : List Int} {j t : Nat} {x : Int} (hj : j < u.length) : nth (u.set j x) t = if t = j then x else nth u t := by
  unfold nth
  simp only [List.getD, List.getElem?_set]
  by_cases e : t = j
  · subst e; simp [hj]
  · rw [if_neg (fun h => e h.symm), if_neg e]
def stepTo (p : Int) (by_ : List Int) (c : Int) (o : Nat) (u : List Int) : Nat → List Int
  | 0 => u
  | j + 1 => (stepTo p by_ c o u j).set (o + j) ((nth (stepTo p by_ c o u j) (o + j) + (p - c) * nth by_ j) % p)
theorem stepTo_len (p : Int) (by_ : List Int) (c : Int) (o : Nat) (u : List Int) (j : Nat) : (stepTo p by_ c o u j).length = u.length := by
  induction j with
  | zero => rfl
  | succ j ih => rw [stepTo, List.length_set, ih]
theorem stepTo_nth (p : Int) (by_ : List Int) (c : Int) (o : Nat) (u : List Int) (j : Nat) (hj : o + j ≤ u.length) (t : Nat) :
    nth (stepTo p by_ c o u j) t = if o ≤ t ∧ t < o + j then (nth u t + (p - c) * nth by_ (t - o)) % p else nth u t := by
  induction j with
  | zero => rw [stepTo, if_neg (by omega)]
  | succ j ih =>
    rw [stepTo, nth_setI (by rw [stepTo_len]; omega)]
    by_cases e : t = o + j
    · subst e
      rw [if_pos rfl, if_pos (by omega), ih (by omega), if_neg (by omega), show o + j - o = j from by omega]
    · rw [if_neg e, ih (by omega)]
      by_cases h : o ≤ t ∧ t < o + j
      · rw [if_pos h, if_pos (by omega)]
      · rw [if_neg h, if_neg (by omega)]
def Dg (p : Int) (u : List Int) : Prop := ∀ t, 0 ≤ nth u t ∧ nth u t < p
theorem Dg.of {p : Int} (h0 : 0 < p) {u : List Int} (h : ∀ t, t < u.length → 0 ≤ nth u t ∧ nth u t < p) : Dg p u := fun t => by
  by_cases ht : t < u.length
  · exact h t ht
  · rw [nth_beyond (by omega)]; omega
theorem stepTo_dg {p : Int} (h0 : 0 < p) {by_ : List Int} {c : Int} {o : Nat} {u : List Int} (h : Dg p u) {j : Nat} (hj : o + j ≤ u.length) : Dg p (stepTo p by_ c o u j) := fun t => by
  rw [stepTo_nth p by_ c o u j hj]
  split
  · exact ⟨Int.emod_nonneg _ (by omega), Int.emod_lt_of_pos _ h0⟩
  · exact h t
theorem stepTo_lin {p : Int} (by_ : List Int) (c : Int) (o : Nat) (u : List Int) {j : Nat} (hj : o + j ≤ u.length) (ψ : Nat → Int) :
    Cg p (linF (stepTo p by_ c o u j) ψ + c * sumN j (fun t => nth by_ t * ψ (o + t))) (linF u ψ) := by
  induction j with
  | zero => exact Cg.of_eq (by rw [stepTo, sumN]; omega)
  | succ j ih =>
    refine Cg.trans ?_ (ih (by omega))
    have hl : o + j < (stepTo p by_ c o u j).length := by rw [stepTo_len]; omega
    -- only place o + j changes
    have key : Cg p (linF (stepTo p by_ c o u (j + 1)) ψ) (linF (stepTo p by_ c o u j) ψ - c * (nth by_ j * ψ (o + j))) := by
      have e : linF (stepTo p by_ c o u (j + 1)) ψ = linF (stepTo p by_ c o u j) ψ + ((nth (stepTo p by_ c o u j) (o + j) + (p - c) * nth by_ j) % p - nth (stepTo p by_ c o u j) (o + j)) * ψ (o + j) := by
        unfold linF
        rw [stepTo, List.length_set]
        have h1 : ∀ t, nth ((stepTo p by_ c o u j).set (o + j) ((nth (stepTo p by_ c o u j) (o + j) + (p - c) * nth by_ j) % p)) t * ψ t = nth (stepTo p by_ c o u j) t * ψ t + (if t = o + j then ((nth (stepTo p by_ c o u j) (o + j) + (p - c) * nth by_ j) % p - nth (stepTo p by_ c o u j) (o + j)) * ψ (o + j) else 0) := fun t => by
          rw [nth_setI hl]
          by_cases e : t = o + j
          · subst e; rw [if_pos rfl, if_pos rfl]; exact (show ∀ X y z : Int, X * z = y * z + (X - y) * z from fun X y z => by rw [Int.sub_mul]; omega) _ _ _
          · rw [if_neg e, if_neg e, Int.add_zero]
        rw [sumN_congr fun t _ => h1 t, sumN_add, sumN_at hl]
      rw [e]
      have m : Cg p ((nth (stepTo p by_ c o u j) (o + j) + (p - c) * nth by_ j) % p - nth (stepTo p by_ c o u j) (o + j)) (-(c * nth by_ j)) := by
        refine ((Cg.mod p _).sub (Cg.rfl_ p _)).trans ⟨nth by_ j, ?_⟩
        rw [Int.sub_mul]; omega
      refine ((Cg.rfl_ p _).add (m.mul_right (ψ (o + j)))).trans (Cg.of_eq ?_)
      rw [Int.neg_mul, Int.mul_assoc]; omega
    have : sumN (j + 1) (fun t => nth by_ t * ψ (o + t)) = sumN j (fun t => nth by_ t * ψ (o + t)) + nth by_ j * ψ (o + j) := rfl
    rw [this, Int.mul_add]
    refine (key.add (Cg.rfl_ p _)).trans (Cg.of_eq ?_)
    omega
def remTo (p : Int) (by_ : List Int) (u : List Int) : Nat → List Int
  | 0 => u
  | r + 1 => stepTo p by_ (nth (remTo p by_ u r) (u.length - 1 - r)) (u.length - 1 - r - (by_.length - 1)) (remTo p by_ u r) by_.length
theorem remTo_len (p : Int) (by_ u : List Int) (r : Nat) : (remTo p by_ u r).length = u.length := by
  induction r with
  | zero => rfl
  | succ r ih => rw [remTo, stepTo_len, ih]
def remP (p : Int) (by_ u : List Int) : List Int := (remTo p by_ u (u.length - (by_.length - 1))).take (by_.length - 1)
theorem nth_takeI {u : List Int} {k t : Nat} : nth (u.take k) t = if t < k then nth u t else 0 := by
  unfold nth
  simp only [List.getD, List.getElem?_take]
  split <;> simp
theorem linF_take {u : List Int} {d : Nat} (h : ∀ t, d ≤ t → t < u.length → nth u t = 0) (ψ : Nat → Int) : linF (u.take d) ψ = linF u ψ := by
  rw [← linF_more (u := u.take d) (n := u.length) (by rw [List.length_take]; omega)]
  refine sumN_congr fun t ht => ?_
  rw [nth_takeI]
  by_cases e : t < d
  · rw [if_pos e]
  · rw [if_neg e, h t (by omega) ht]
section
variable {p : Int} (h0 : 0 < p) {by_ u : List Int} (hby : 0 < by_.length) (hl : nth by_ (by_.length - 1) = 1)
include h0 hby hl
theorem remTo_inv (hu : Dg p u) : ∀ r, r ≤ u.length - (by_.length - 1) → Dg p (remTo p by_ u r) ∧ (∀ t, u.length - r ≤ t → t < u.length → nth (remTo p by_ u r) t = 0) ∧
    ∃ q : Nat → Int, (∀ o, u.length - (by_.length - 1) - r ≤ o → 0 ≤ q o ∧ q o < p) ∧ (0 < r → q (u.length - by_.length) = nth u (u.length - 1)) ∧ ∀ ψ : Nat → Int,
      Cg p (linF (remTo p by_ u r) ψ + sumN r (fun j => q (u.length - by_.length - j) * sumN by_.length (fun t => nth by_ t * ψ (u.length - by_.length - j + t)))) (linF u ψ) := by
  intro r
  induction r with
  | zero => exact fun _ => ⟨hu, fun t h1 h2 => by omega, fun _ => 0, fun _ _ => ⟨Int.le_refl 0, h0⟩, fun h => by omega, fun ψ => Cg.of_eq (by rw [remTo, sumN]; omega)⟩
  | succ r ih =>
    intro hr
    obtain ⟨d1, z1, q, q1, q2, q3⟩ := ih (by omega)
    have ho : u.length - 1 - r - (by_.length - 1) = u.length - by_.length - r := by omega
    have hob : u.length - 1 - r - (by_.length - 1) + by_.length ≤ (remTo p by_ u r).length := by rw [remTo_len]; omega
    refine ⟨?_, ?_, fun o => if o = u.length - by_.length - r then nth (remTo p by_ u r) (u.length - 1 - r) else q o, ?_, ?_, ?_⟩
    · rw [remTo]; exact stepTo_dg h0 d1 hob
    · intro t h1 h2
      rw [remTo, stepTo_nth _ _ _ _ _ _ hob]
      by_cases e : t = u.length - 1 - r
      · subst e
        rw [if_pos (by omega), show u.length - 1 - r - (u.length - 1 - r - (by_.length - 1)) = by_.length - 1 from by omega, hl, Int.mul_one, show ∀ a : Int, a + (p - a) = p from fun a => by omega, Int.emod_self]
      · rw [if_neg (by omega)]
        exact z1 t (by omega) h2
    · intro o h1
      dsimp only
      split
      · exact d1 _
      · exact q1 o (by omega)
    · intro _
      dsimp only
      by_cases e : r = 0
      · subst e
        rw [if_pos (by omega)]
        show nth (remTo p by_ u 0) _ = _
        rw [remTo]; rfl
      · rw [if_neg (by omega)]
        exact q2 (by omega)
    · intro ψ
      have k1 := stepTo_lin (p := p) by_ (nth (remTo p by_ u r) (u.length - 1 - r)) (u.length - 1 - r - (by_.length - 1)) (remTo p by_ u r) hob ψ
      rw [remTo, sumN]
      dsimp only
      rw [if_pos rfl]
      have k2 : sumN r (fun j => (if u.length - by_.length - j = u.length - by_.length - r then nth (remTo p by_ u r) (u.length - 1 - r) else q (u.length - by_.length - j)) * sumN by_.length (fun t => nth by_ t * ψ (u.length - by_.length - j + t))) =
          sumN r (fun j => q (u.length - by_.length - j) * sumN by_.length (fun t => nth by_ t * ψ (u.length - by_.length - j + t))) := sumN_congr fun j hj => by rw [if_neg (by omega)]
      rw [k2]
      refine Cg.trans ?_ (q3 ψ)
      rw [ho] at k1 ⊢
      have k3 := k1.add (Cg.rfl_ p (sumN r (fun j => q (u.length - by_.length - j) * sumN by_.length (fun t => nth by_ t * ψ (u.length - by_.length - j + t)))))
      refine Cg.trans (Cg.of_eq ?_) k3
      omega
end
theorem sumN_rev (n : Nat) (f : Nat → Int) : sumN n (fun j => f (n - 1 - j)) = sumN n f := by
  induction n generalizing f with
  | zero => rfl
  | succ n ih =>
    have h1 : ∀ (m : Nat) (g : Nat → Int), sumN (m + 1) g = g 0 + sumN m fun i => g (i + 1) := by
      intro m
      induction m with
      | zero => intro g; simp [sumN]
      | succ m ihm => intro g; rw [sumN, ihm, sumN]; omega
    rw [h1, sumN]
    have h2 : sumN n (fun i => f (n + 1 - 1 - (i + 1))) = sumN n f := by
      rw [← ih f]
      exact sumN_congr fun i hi => by rw [show n + 1 - 1 - (i + 1) = n - 1 - i from by omega]
    rw [h2, show n + 1 - 1 - 0 = n from by omega]
    omega
def powX (f : List Int) : Nat → Nat → Int
  | 0, s => if s = 0 then 1 else 0
  | t + 1, s => (if s = 0 then 0 else powX f t (s - 1)) - powX f t (f.length - 2) * nth f s
section
variable {f : List Int} {k : Nat} (hk : f.length = k + 1) (k1 : 1 ≤ k)
include hk k1
theorem powX_low {t s : Nat} (ht : t < k) (hs : s < k) : powX f t s = if s = t then 1 else 0 := by
  induction t generalizing s with
  | zero => rfl
  | succ t ih =>
    rw [powX, hk, show k + 1 - 2 = k - 1 from by omega, ih (s := k - 1) (by omega) (by omega), if_neg (show ¬ k - 1 = t from by omega), Int.zero_mul, Int.sub_zero]
    by_cases e : s = 0
    · subst e; rw [if_pos rfl, if_neg (by omega)]
    · rw [if_neg e, ih (s := s - 1) (by omega) (by omega)]
      by_cases e2 : s = t + 1
      · rw [if_pos e2, if_pos (by omega)]
      · rw [if_neg e2, if_neg (by omega)]
theorem powX_rec (hm : nth f k = 1) (o : Nat) {s : Nat} (hs : s < k) : sumN (k + 1) (fun t => nth f t * powX f (o + t) s) = 0 := by
  induction o generalizing s with
  | zero =>
    rw [sumN, hm, Int.one_mul, sumN_congr (g := fun t => if t = s then nth f s else 0) (fun t ht => by
      rw [Nat.zero_add, powX_low hk k1 ht hs]
      by_cases e : t = s
      · subst e; simp
      · rw [if_neg (fun h => e h.symm), if_neg e, Int.mul_zero]), sumN_at hs]
    obtain ⟨k', rfl⟩ : ∃ k', k = k' + 1 := ⟨k - 1, by omega⟩
    rw [Nat.zero_add, powX, hk, show k' + 1 + 1 - 2 = k' from by omega, powX_low hk k1 (t := k') (s := k') (by omega) (by omega), if_pos rfl, Int.one_mul]
    by_cases e : s = 0
    · rw [if_pos e]; omega
    · rw [if_neg e, powX_low hk k1 (by omega) (by omega), if_neg (by omega)]; omega
  | succ o ih =>
    have e : ∀ t, nth f t * powX f (o + 1 + t) s = (if s = 0 then 0 else nth f t * powX f (o + t) (s - 1)) - nth f s * (nth f t * powX f (o + t) (k - 1)) := fun t => by
      rw [show o + 1 + t = (o + t) + 1 from by omega, powX, hk, show k + 1 - 2 = k - 1 from by omega, Int.mul_sub]
      congr 1
      · by_cases e : s = 0
        · rw [if_pos e, if_pos e, Int.mul_zero]
        · rw [if_neg e, if_neg e]
      · rw [Int.mul_comm (powX f (o + t) (k - 1)), Int.mul_left_comm]
    rw [sumN_congr fun t _ => e t, sumN_sub, sumN_mul, ih (s := k - 1) (by omega), Int.mul_zero, Int.sub_zero]
    by_cases e : s = 0
    · exact sumN_zero fun t _ => by rw [if_pos e]
    · rw [sumN_congr (g := fun t => nth f t * powX f (o + t) (s - 1)) (fun t _ => by rw [if_neg e])]
      exact ih (by omega)
end
section
variable {p : Int} {f : List Int} {k : Nat} (hk : f.length = k + 1) (k1 : 1 ≤ k) (hm : nth f k = 1)
include hk k1
include hm
end
theorem least_ {P : Nat → Prop} : ∀ {n : Nat}, P n → ∃ d, d ≤ n ∧ P d ∧ ∀ e, e < d → ¬ P e := by
  intro n
  induction n using Nat.strongRecOn with
  | ind n ih =>
    intro h
    by_cases h2 : ∃ e, e < n ∧ P e
    · obtain ⟨e, he, hp⟩ := h2
      obtain ⟨d, hd, r⟩ := ih e he hp
      exact ⟨d, by omega, r⟩
    · exact ⟨n, Nat.le_refl _, h, fun e he hp => h2 ⟨e, he, hp⟩⟩
def Inv (p : Int) : Prop := ∀ c, 0 < c → c < p → ∃ c', Cg p (c * c') 1
theorem nth_map_range (n : Nat) (F : Nat → Int) (t : Nat) : nth ((List.range n).map F) t = if t < n then F t else 0 := by
  unfold nth
  by_cases h : t < n
  · simp [List.getD, h]
  · simp [List.getD, h]
section
variable {p : Int} (p2 : 1 < p) (hinv : Inv p) {f : List Int}
include p2
include hinv
end
def Irr (p : Int) (f : List Int) : Prop := ∀ d g, 1 ≤ d → 2 * d ≤ f.length - 1 → g.length = d + 1 → Dg p g → nth g d = 1 → ∃ t, nth (remP p g f) t ≠ 0
section
variable {p : Int} (p2 : 1 < p)
include p2
theorem remP_lin {g u : List Int} {d n : Nat} (hg : g.length = d + 1) (hm : nth g d = 1) (hu : u.length = n + 1) (hd : d ≤ n) (hD : Dg p u) :
    (remP p g u).length = d ∧ Dg p (remP p g u) ∧ ∃ q : Nat → Int, q (n - d) = nth u n ∧ ∀ ψ : Nat → Int, Cg p (linF (remP p g u) ψ + sumN (n + 1 - d) fun o => q o * sumN (d + 1) fun t => nth g t * ψ (o + t)) (linF u ψ) := by
  have hp0 : 0 < p := by omega
  obtain ⟨a, b, q, -, q2, q3⟩ := remTo_inv hp0 (by_ := g) (u := u) (by omega) (by rw [hg, show d + 1 - 1 = d from by omega]; exact hm) hD (u.length - (g.length - 1)) (Nat.le_refl _)
  rw [hu, hg, show d + 1 - 1 = d from by omega] at a b q2 q3
  rw [show n + 1 - (d + 1) = n - d from by omega, show n + 1 - 1 = n from by omega] at q2
  have er : remP p g u = (remTo p g u (n + 1 - d)).take d := by unfold remP; rw [hu, hg, show d + 1 - 1 = d from by omega]
  refine ⟨by rw [er, List.length_take, remTo_len, hu]; omega, ?_, q, q2 (by omega), fun ψ => ?_⟩
  · rw [er]
    intro t
    rw [nth_takeI]
    split
    · exact a t
    · omega
  · have h1 := q3 ψ
    rw [er, linF_take (by rw [remTo_len, hu]; exact fun t h1 h2 => b t (by omega) h2)]
    refine Cg.trans (Cg.of_eq ?_) h1
    congr 1
    rw [← sumN_rev (n + 1 - d)]
    exact sumN_congr fun j hj => by rw [show n + 1 - d - 1 - j = n + 1 - (d + 1) - j from by omega]
variable (hinv : Inv p) {f : List Int} {k : Nat} (hk : f.length = k + 1) (k1 : 1 ≤ k) (hm : nth f k = 1) (hD : Dg p f) (hi : Irr p f)
include hinv hk k1 hm hD
include hi
end
end Go.Proofs.YtnmcmologlgccaaGreat
