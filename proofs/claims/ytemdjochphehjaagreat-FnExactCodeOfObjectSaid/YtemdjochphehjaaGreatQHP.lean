/- The search keeps the order of the colors; permutations cut to the points. No program in sight. -/
import Derived.Test.YtemdjochphehjaaGreatQGG
import Derived.Test.YtemdjochphehjaaGreatQHL
import Derived.Test.YtemdjochphehjaaGreatQHA
import Derived.Test.YtemdjochphehjaaGreatQGM
set_option linter.unusedVariables false
set_option linter.unusedSimpArgs false
namespace Go.Proofs.YtemdjochphehjaaGreat

theorem idxG_up {α : Type} {c : α → α → Int} (h : TOrd c) {l : List α} (hl : StrictL c l) {x y : α} (hx : x ∈ l) (hy : y ∈ l) (hxy : c x y < 0) : idxG c l x < idxG c l y := by
  have h1 : idxG c l x ≤ idxG c l y := List.countP_mono_left fun z _ hz => by
    simp only [decide_eq_true_eq] at hz ⊢
    exact h.lt_trans hz hxy
  have h2 : idxG c l x ≠ idxG c l y := fun e => by
    have := idxG_inj h hl hx hy e
    subst this
    have := h.self x
    omega
  omega
/-- what keeps the order of the colors -/
def UpL (c d : List Int) : Prop := d.length = c.length ∧ ∀ u v, u < c.length → v < c.length → nth c u < nth c v → nth d u < nth d v
theorem UpL.refl (c : List Int) : UpL c c := ⟨rfl, fun _ _ _ _ h => h⟩
theorem UpL.trans {c d e : List Int} (h : UpL c d) (k : UpL d e) : UpL c e :=
  ⟨by rw [k.1, h.1], fun u v hu hv hlt => k.2 u v (by rw [h.1]; exact hu) (by rw [h.1]; exact hv) (h.2 u v hu hv hlt)⟩
theorem roundP_up (near : List (List Int)) (cells : List Int) : UpL cells (roundP near cells) := by
  refine ⟨roundP_len, fun u v hu hv h => ?_⟩
  rw [roundP_nth hu, roundP_nth hv]
  have := idxG_up cmpL_ord (setG_strict cmpL_ord (keysP near cells)) (kindsP_mem (near := near) hu) (kindsP_mem (near := near) hv) (by unfold keyP; rw [cmpL, if_pos h]; omega)
  exact Int.ofNat_lt.2 this
theorem refF_up (near : List (List Int)) : ∀ (f : Nat) (cells : List Int), UpL cells (refF near f cells) := by
  intro f
  induction f with
  | zero => intro cells; exact roundP_up near cells
  | succ f ih =>
    intro cells
    rw [refF]
    split
    · exact roundP_up near cells
    · exact (roundP_up near cells).trans (ih _)
theorem refP_up (near : List (List Int)) (cells : List Int) : UpL cells (refP near cells) := refF_up near _ cells
theorem splitP_up (cells : List Int) (v : Nat) : UpL cells (splitP cells v) := by
  refine ⟨splitP_len cells v, fun u w hu hw h => ?_⟩
  rw [splitP_nth hu, splitP_nth hw]
  by_cases h1 : u = v
  · by_cases h2 : w = v
    · subst h1; subst h2; omega
    · rw [if_pos h1, if_neg h2]; subst h1; omega
  · by_cases h2 : w = v
    · rw [if_neg h1, if_pos h2]; subst h2; omega
    · rw [if_neg h1, if_neg h2]; omega
theorem Leaf.up {near : List (List Int)} {c p : List Int} (h : Leaf near c p) : UpL c p := by
  induction h with
  | here => exact UpL.refl _
  | down v h hv ht hp ih => exact ((splitP_up _ v).trans (refP_up near _)).trans ih
end Go.Proofs.YtemdjochphehjaaGreat
/- spec.l04Back and spec.l04Times. No condition beyond those stated. -/
namespace Go.Proofs.YtemdjochphehjaaGreat
open Go.RowKit

theorem then_step {p q : List Int} {k : Nat} (hk : k < p.length) {x : Int} (hx : nth q (nth p k).toNat = x) : (thenP p q).take k ++ [x] = (thenP p q).take (k + 1) := by
  rw [List.take_succ_eq_append_getElem (by rw [thenP_len]; exact hk), ← nth_get, thenP_nth hk, hx]
set_option maxRecDepth 100000 in
set_option maxHeartbeats 1000000 in
theorem l04Times_any (A : Option Addr) (n c : Nat) (p : List Int) (B : Option Addr) (m d : Nat) (q : List Int) (w : World) (ha : RI w A n p) (hb : RI w B m q) (hp : Perm p) (hnm : n ≤ m) (hn : m ≤ 1048576) :
    Calls Tryz.prog 215 #[.slice A n c, .slice B m d] w (RetI w 2 (thenP p q)) := by
  have hla := Lib.hid ha.len
  have HP := Lib.hid hp
  clear hp
  have ho0 : OI (w.alloc (.cells #[] 2)) w.heap.size 2 (some ⟨w.heap.size, 0, none⟩) 0 0 ((thenP p q).take 0) := ⟨OS.lit w w.heap.size 2 1 0 #[] (Nat.le_refl _) rfl (by omega), fun _ h => by cases h⟩
  have hb0 := below_alloc w (.cells #[] 2)
  go_enter Tryz.func215, Tryz.ntmps215
  go_wp2
  go_loopw [5, 6] (fun t i wr => ∃ (k : Nat) (T : Option Addr) (e : Nat), k ≤ n ∧ i = .int .i64 k ∧ t = .slice T k e ∧ OI wr w.heap.size 2 T k e ((thenP p q).take k) ∧ Below w.heap.size w wr) (fun _ i _ => n - (intOf i).toNat)
  case atStart => exact ⟨0, _, _, Nat.zero_le _, rfl, rfl, ho0, hb0⟩
  case round =>
    clear ho0 hb0
    obtain ⟨k, T, e, hk, rfl, rfl, ho, hw⟩ := hrel
    by_cases hlt : k < n
    · obtain ⟨a, rfl, hca, -⟩ := (ha.keep hw).get hlt
      obtain ⟨x, hx, hxn⟩ := perm_nat HP.out hla.out hlt
      obtain ⟨a2, rfl, hcb, hib⟩ := (hb.keep hw).get (k := x) (by omega)
      have hst := Lib.hid (then_step (p := p) (q := q) (k := k) (by rw [hla.out]; exact hlt) (by rw [hx, Int.toNat_natCast]))
      rw [hx] at hca
      clear hx
      generalize nth q x = z at *
      go_wp2_with (at_builtin; refine app_int _ rfl _ _ rfl w.heap.size T k e _ rfl ho z _ rfl (by simp) hib (by omega) hw.size ?_; intro A' c' w3 ho3 hg3 hn3)
      have hw3 := below_own hw hg3 hw.size (fun b hb => (ho.os.lt hb).1)
      rw [hst.out] at ho3
      go_roundw
      case rel => exact ⟨k + 1, A', c', by omega, by go_num, rfl, ho3, hw3⟩
      case measure => simp [intOf]; omega
    · obtain rfl : k = n := by omega
      rw [List.take_of_length_le (by rw [thenP_len, hla.out]; exact Nat.le_refl _)] at ho
      go_wp2
      go_ret
      exact ⟨_, _, _, rfl, ho, hw⟩
end Go.Proofs.YtemdjochphehjaaGreat
/- spec.l05Find: a binary search among rising rows. No condition beyond those stated. -/
namespace Go.Proofs.YtemdjochphehjaaGreat
open Go.RowKit

/-- where a row stands, or would stand -/
def FdAt (zss : List (List Int)) (x : List Int) (k : Nat) (f : Bool) : Prop :=
  k ≤ zss.length ∧ ((f = true ∧ x ∈ zss) ∨ (f = false ∧ (∀ i, i < k → cmpL (row zss i) x < 0) ∧ ∀ i, k ≤ i → i < zss.length → 0 < cmpL (row zss i) x))
def FdTo (zss : List (List Int)) (x : List Int) (lo hi : Nat) : Prop :=
  (∀ i, i < lo → cmpL (row zss i) x < 0) ∧ ∀ i, hi ≤ i → i < zss.length → 0 < cmpL (row zss i) x
theorem fdTo_low {zss : List (List Int)} {x : List Int} (hs : StrictL cmpL zss) {lo hi m : Nat} (h : FdTo zss x lo hi) (hm : m < zss.length) (hc : cmpL (row zss m) x < 0) : FdTo zss x (m + 1) hi := by
  refine ⟨fun i hi' => ?_, h.2⟩
  by_cases e : i = m
  · rw [e]; exact hc
  · have h1 := List.pairwise_iff_getElem.1 hs i m (by omega) hm (by omega)
    rw [← row_get (by omega), ← row_get hm] at h1
    exact cmpL_ord.lt_trans h1 hc
theorem fdTo_high {zss : List (List Int)} {x : List Int} (hs : StrictL cmpL zss) {lo hi m : Nat} (h : FdTo zss x lo hi) (hm : m < zss.length) (hc : 0 < cmpL (row zss m) x) : FdTo zss x lo m := by
  refine ⟨h.1, fun i hi' hil => ?_⟩
  by_cases e : i = m
  · rw [e]; exact hc
  · have h1 := List.pairwise_iff_getElem.1 hs m i hm hil (by omega)
    rw [← row_get hm, ← row_get hil] at h1
    have h2 := cmpL_ord.swap (row zss m) x
    have h3 := cmpL_ord.lt_trans (x := x) (by omega) h1
    have h4 := cmpL_ord.swap x (row zss i)
    omega
set_option maxRecDepth 100000 in
set_option maxHeartbeats 2000000 in
theorem l05Find_any (A : Option Addr) (n c : Nat) (zss : List (List Int)) (X : Option Addr) (p q : Nat) (x : List Int) (w : World) (ha : RR w A n zss) (hn : n ≤ 1048576) (hx : RI w X p x) (hp : p ≤ q) (hq : q ≤ 9223372036854775807) (hs : StrictL cmpL zss) :
    Calls Tryz.prog 194 #[.slice A n c, .slice X p q] w (fun e w' => ∃ (k : Nat) (f : Bool), e = .returned (.tuple #[.int .i64 k, .bool f]) ∧ FdAt zss x k f ∧ Drawn w w') := by
  have hla := Lib.hid ha.len
  have HS := Lib.hid hs
  clear hs
  go_enter Tryz.func194, Tryz.ntmps194
  go_wp2
  go_loopw [6, 7] (fun l h wr => ∃ (lo hi : Nat), lo ≤ hi ∧ hi ≤ n ∧ l = .int .i64 lo ∧ h = .int .i64 hi ∧ Drawn w wr ∧ FdTo zss x lo hi) (fun l h _ => (intOf h).toNat - (intOf l).toNat)
  case atStart => exact ⟨0, n, Nat.zero_le _, Nat.le_refl _, rfl, rfl, Drawn.refl _, fun i h => by omega, fun i h1 h2 => by rw [hla.out] at h2; omega⟩
  case round =>
    obtain ⟨lo, hi, hlh, hhn, rfl, rfl, hd, hto⟩ := hrel
    by_cases hlt : lo < hi
    · have hq2 : Int.tdiv ((lo : Int) + (hi : Int)) 2 = (((lo + hi) / 2 : Nat) : Int) := by rw [Int.tdiv_eq_ediv_of_nonneg (by omega)]; omega
      obtain ⟨m, hm⟩ : ∃ m : Nat, (lo + hi) / 2 = m := ⟨_, rfl⟩
      rw [hm] at hq2
      have hm1 : lo ≤ m ∧ m < hi := by omega
      have hmn : m < n := by omega
      obtain ⟨a, Y, p1, q1, rfl, hca, hp1, hq1, hri⟩ := (ha.drawn hd).get hmn
      have hcmp := compareLists_any Y X p1 p q1 q _ x wr hri (hx.keep hd.below) (by omega) (by omega)
      have hbd := cmpL_bd (row zss m) x
      have HM := Lib.hid (show m < zss.length by rw [hla.out]; exact hmn)
      clear hm
      by_cases h0 : cmpL (row zss m) x = 0
      · have HF := Lib.hid (show FdAt zss x m true from ⟨Nat.le_of_lt HM.out, .inl ⟨rfl, by rw [← cmpL_zero h0, row_get HM.out]; exact List.getElem_mem _⟩⟩)
        rw [h0] at hcmp
        clear hto h0 hbd hri
        go_wp2_with fail
        refine hcmp.mono ?_
        rintro e w1 ⟨rfl, hd1⟩
        clear hcmp
        go_wp2
        go_ret2
        exact ⟨m, true, rfl, HF.out, hd.trans hd1⟩
      · by_cases h1 : cmpL (row zss m) x < 0
        · have HT := Lib.hid (fdTo_low HS.out hto HM.out h1)
          generalize cmpL (row zss m) x = s at *
          have e1 : (s == 0) = false := by simpa using h0
          clear hto hri h0
          go_wp2_with fail
          refine hcmp.mono ?_
          rintro e w1 ⟨rfl, hd1⟩
          clear hcmp
          go_wp2
          go_roundw
          case rel => exact ⟨m + 1, hi, by omega, hhn, by go_num, rfl, hd.trans hd1, HT.out⟩
          case measure => simp [intOf]; omega
        · have HT := Lib.hid (fdTo_high HS.out hto HM.out (by omega))
          generalize cmpL (row zss m) x = s at *
          have e1 : (s == 0) = false := by simpa using h0
          clear hto hri h0
          go_wp2_with fail
          refine hcmp.mono ?_
          rintro e w1 ⟨rfl, hd1⟩
          clear hcmp
          go_wp2
          go_roundw
          case rel => exact ⟨lo, m, by omega, by omega, rfl, rfl, hd.trans hd1, HT.out⟩
          case measure => simp [intOf]; omega
    · obtain rfl : lo = hi := by omega
      have HF := Lib.hid (show FdAt zss x lo false from ⟨by rw [hla.out]; exact hhn, .inr ⟨rfl, hto.1, hto.2⟩⟩)
      go_wp2
      go_ret2
      exact ⟨lo, false, rfl, HF.out, hd⟩
end Go.Proofs.YtemdjochphehjaaGreat
/- Appending all rows of another slice. No condition beyond those stated. -/
namespace Go.Proofs.YtemdjochphehjaaGreat
open Go.RowKit

section
variable {ops : Array Oper} {rest : List Oper} {o : Oper} {a : Act} {Q : Exit → Act → World → Prop}
theorem app_sls (w : World) (hgd : o.guard = none) (s x : Operand) (ho : o.op = .call { callee := .builtin .append, args := #[s, x], argTypes := #[25, 25] })
    (B : Nat) (A : Option Addr) (n c : Nat) (vs : List Sl) (hs : a.eval s = .slice A n c) (hown : OS w B 22 1 A n c (vs.map slv))
    (A2 : Option Addr) (m c2 : Nat) (us : List Sl) (hx : a.eval x = .slice A2 m c2) (hl : us.length = m) (hu : ∀ j v, us[j]? = some v → ∃ ad, A2 = some ad ∧ w.cell? (ad.add j) = some (slv v)) (hbig : n + m ≤ 2199023255552) (hB : B ≤ w.heap.size)
    (h : ∀ A' c' w', OS w' B 22 1 A' (n + m) c' ((vs ++ us).map slv) → w.grownBy w' (blk A) → (blk A' = blk A ∨ blk A' = some w.heap.size) → wpList Tryz.prog ops Q rest (a.put o.dst (.slice A' (n + m) c')) w') :
    wpList Tryz.prog ops Q (o :: rest) a w :=
  wpList_app w hgd s x 25 ho 22 (.slice none 0 0) 1 24 Tryz.underlying25 ints_info rfl (by omega) (by omega) B A n c (vs.map slv) hs hown A2 m c2 (us.map slv) hx (by simp [hl])
    (fun j u hj => by
      rw [List.getElem?_map] at hj
      cases e : us[j]? with
      | none => rw [e] at hj; cases hj
      | some v =>
        rw [e] at hj
        simp only [Option.map_some, Option.some.injEq] at hj
        subst hj
        exact hu j v e)
    (fun u hu => by obtain ⟨v, -, rfl⟩ := List.mem_map.1 hu; rfl) hbig hB
    fun A' c' w' h1 h2 h3 => h A' c' w' (by rw [List.map_append]; exact h1) h2 h3
end
end Go.Proofs.YtemdjochphehjaaGreat
/- spec.l05Put. No condition beyond those stated. -/
namespace Go.Proofs.YtemdjochphehjaaGreat
open Go.RowKit

theorem add_add_ (ad : Addr) (k j : Nat) : (ad.add k).add j = ad.add (k + j) := by
  unfold Addr.add
  by_cases hk : k = 0
  · subst hk; simp
  · by_cases hj : j = 0
    · subst hj; simp
    · simp [hk, hj, Nat.add_assoc]
theorem RR.take_ {w : World} {A : Option Addr} {n : Nat} {zss : List (List Int)} (h : RR w A n zss) {k : Nat} (hk : k ≤ n) : RR w A k (zss.take k) := by
  refine ⟨by rw [List.length_take, h.len]; omega, fun j z hz => ?_⟩
  rw [List.getElem?_take] at hz
  split at hz
  · exact h.2 j z hz
  · cases hz
theorem RR.drop_ {w : World} {ad : Addr} {n : Nat} {zss : List (List Int)} (h : RR w (some ad) n zss) {k : Nat} (hk : k ≤ n) : RR w (some (ad.add k)) (n - k) (zss.drop k) := by
  refine ⟨by rw [List.length_drop, h.len], fun j z hz => ?_⟩
  rw [List.getElem?_drop] at hz
  obtain ⟨ad', v, ha, hc, r⟩ := h.2 (k + j) z hz
  cases ha
  exact ⟨ad.add k, v, rfl, by rw [add_add_ ad k j]; exact hc, r⟩
end Go.Proofs.YtemdjochphehjaaGreat
