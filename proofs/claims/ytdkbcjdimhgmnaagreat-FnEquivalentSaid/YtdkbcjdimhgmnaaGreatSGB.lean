/- Functions that compare slices of numbers, and slices of such slices: they return whether the lists are equal, and only read. No condition beyond those stated. -/
import Derived.Test.YtdkbcjdimhgmnaaGreatProg
import Derived.Test.YtdkbcjdimhgmnaaGreatSGA
import Derived.Deep.QuietTactic
import Derived.BigQuiet
set_option linter.unusedVariables false
set_option linter.unusedSimpArgs false
namespace Go.Proofs.YtdkbcjdimhgmnaaGreat
open Go.RowKit
def Drawn (w w' : World) : Prop := ∃ q, w' = w.drewN q
theorem Drawn.refl (w : World) : Drawn w w := ⟨0, rfl⟩
theorem Drawn.trans {a b c : World} (h : Drawn a b) (k : Drawn b c) : Drawn a c := by
  obtain ⟨p, rfl⟩ := h
  obtain ⟨q, rfl⟩ := k
  exact ⟨p + q, World.drewN_drewN _ _ _⟩
theorem Drawn.more {a b : World} (h : Drawn a b) (q : Nat) : Drawn a (b.drewN q) := h.trans ⟨q, rfl⟩
theorem Drawn.below {a b : World} (h : Drawn a b) : Below a.heap.size a b := by
  obtain ⟨p, rfl⟩ := h
  exact below_drewn _ _
theorem RI.drawn {w w' : World} {A n zs} (h : RI w A n zs) (q : Drawn w w') : RI w' A n zs := h.keep q.below
theorem RR.drawn {w w' : World} {A n zs} (h : RR w A n zs) (q : Drawn w w') : RR w' A n zs := h.keep q.below
def Quiet (w : World) (v : Value) (e : Ending) (w' : World) : Prop := e = .returned v ∧ Drawn w w'
theorem Quiet.of_same {w w' : World} {v : Value} {e : Ending} (h : e = .returned v ∧ w = w') : Quiet w v e w' := ⟨h.1, h.2 ▸ Drawn.refl w⟩
theorem RI.drewN {w : World} {A n zs} (h : RI w A n zs) (q : Nat) : RI (w.drewN q) A n zs := h.keep (below_drewn w q)
theorem Quiet.call {P : Program} {f : FuncId} {args : Array Value} {w : World} {n : Nat} {v : Value} (h : Calls P f args (w.drewN n) (Quiet (w.drewN n) v)) :
    Calls P f args (w.drewN n) fun e w'' => e = .returned v ∧ ∃ m, w'' = w.drewN m := Calls.quiet_of (h.mono fun _ _ h => h)
def upTo (xs ys : List Int) (k : Nat) : Prop := ∀ j, j < k → nth xs j = nth ys j
theorem upTo_all {xs ys : List Int} (h : xs.length = ys.length) (k : upTo xs ys xs.length) : xs = ys := by
  apply List.ext_getElem h
  intro i h1 h2
  have := k i h1
  rwa [nth_get h1, nth_get h2] at this
theorem upTo_step {xs ys : List Int} {k : Nat} (h : upTo xs ys k) (he : nth xs k = nth ys k) : upTo xs ys (k + 1) := fun j hj => by
  rcases Nat.lt_succ_iff_lt_or_eq.1 hj with h' | h'
  · exact h j h'
  · rw [h']; exact he
def upToR (xs ys : List (List Int)) (k : Nat) : Prop := ∀ j, j < k → row xs j = row ys j
theorem upToR_all {xs ys : List (List Int)} (h : xs.length = ys.length) (k : upToR xs ys xs.length) : xs = ys := by
  apply List.ext_getElem h
  intro i h1 h2
  have := k i h1
  rwa [row_get h1, row_get h2] at this
theorem upToR_step {xs ys : List (List Int)} {k : Nat} (h : upToR xs ys k) (he : row xs k = row ys k) : upToR xs ys (k + 1) := fun j hj => by
  rcases Nat.lt_succ_iff_lt_or_eq.1 hj with h' | h'
  · exact h j h'
  · rw [h']; exact he
set_option maxHeartbeats 400000 in
theorem eqInt64S_any (A B : Option Addr) (n m c d : Nat) (xs ys : List Int) (w : World) (ha : RI w A n xs) (hb : RI w B m ys) (hn : n ≤ 9223372036854775807) (hm : m ≤ 9223372036854775807) :
    Calls Tryz.prog 102 #[.slice A n c, .slice B m d] w (Quiet w (.bool (decide (xs = ys)))) := by
  have hla := Lib.hid ha.len
  have hlb := Lib.hid hb.len
  by_cases h : n = m
  · subst h
    go_enter Tryz.func102, Tryz.ntmps102
    go_wp2
    go_loopw [5] (fun i wr => ∃ k : Nat, k ≤ n ∧ i = .int .i64 k ∧ Drawn w wr ∧ upTo xs ys k) (fun i _ => n - (intOf i).toNat)
    case atStart => exact ⟨0, Nat.zero_le _, rfl, Drawn.refl _, fun _ h => absurd h (by omega)⟩
    case round =>
      obtain ⟨k, hk, rfl, hd, hu⟩ := hrel
      by_cases hlt : k < n
      · obtain ⟨a, rfl, hca, hia⟩ := (ha.drawn hd).get hlt
        obtain ⟨b, rfl, hcb, hib⟩ := (hb.drawn hd).get hlt
        by_cases he : nth xs k = nth ys k
        · have he' : (nth xs k != nth ys k) = false := by simp [he]
          have H := Lib.hid (upTo_step hu he); clear hu he
          go_wp2
          go_quiet (fail)
          go_wp2
          go_roundw
          case rel => exact ⟨k + 1, by omega, by go_num, hd.more _, H.out⟩
          case measure => simp [intOf]; omega
        · have he' : (nth xs k != nth ys k) = true := by simp [he]
          have H := Lib.hid (show decide (xs = ys) = false by simp; rintro rfl; exact he rfl)
          clear he hu
          go_wp2
          go_quiet (fail)
          go_wp2
          go_ret
          exact ⟨by rw [H.out]; rfl, hd.more _⟩
      · have H := Lib.hid (show decide (xs = ys) = true by simp; exact upTo_all (by rw [hla.out, hlb.out]) (fun j hj => hu j (by have := hla.out; omega)))
        clear hu
        go_wp2
        go_ret
        exact ⟨by rw [H.out]; rfl, hd⟩
  · have h' : ((n : Int) != (m : Int)) = true := by simp; omega
    have H := Lib.hid (show decide (xs = ys) = false by simp; rintro rfl; exact h (hla.out.symm.trans hlb.out))
    clear h
    go_enter Tryz.func102, Tryz.ntmps102
    go_wp2
    go_ret
    exact ⟨by rw [H.out]; rfl, Drawn.refl _⟩
set_option maxHeartbeats 400000 in
theorem slicesEqual_any (A B : Option Addr) (n m c d : Nat) (xs ys : List Int) (w : World) (ha : RI w A n xs) (hb : RI w B m ys) (hn : n ≤ 9223372036854775807) (hm : m ≤ 9223372036854775807) :
    Calls Tryz.prog 71 #[.slice A n c, .slice B m d] w (Quiet w (.bool (decide (xs = ys)))) := by
  have hla := Lib.hid ha.len
  have hlb := Lib.hid hb.len
  by_cases h : n = m
  · subst h
    go_enter Tryz.func71, Tryz.ntmps71
    go_wp2
    go_loopw [5, 13] (fun _ i wr => ∃ k : Nat, k ≤ n ∧ i = .int .i64 k ∧ Drawn w wr ∧ upTo xs ys k) (fun _ i _ => n - (intOf i).toNat)
    case atStart => exact ⟨0, Nat.zero_le _, rfl, Drawn.refl _, fun _ h => absurd h (by omega)⟩
    case round =>
      obtain ⟨k, hk, rfl, hd, hu⟩ := hrel
      by_cases hlt : k < n
      · obtain ⟨a, rfl, hca, hia⟩ := (ha.drawn hd).get hlt
        obtain ⟨b, rfl, hcb, hib⟩ := (hb.drawn hd).get hlt
        by_cases he : nth xs k = nth ys k
        · have he' : (nth xs k != nth ys k) = false := by simp [he]
          have H := Lib.hid (upTo_step hu he); clear hu he
          go_wp2
          go_quiet (fail)
          go_wp2
          go_roundw
          case rel => exact ⟨k + 1, by omega, by go_num, hd.more _, H.out⟩
          case measure => simp [intOf]; omega
        · have he' : (nth xs k != nth ys k) = true := by simp [he]
          have H := Lib.hid (show decide (xs = ys) = false by simp; rintro rfl; exact he rfl)
          clear he hu
          go_wp2
          go_quiet (fail)
          go_wp2
          go_ret
          exact ⟨by rw [H.out]; rfl, hd.more _⟩
      · have H := Lib.hid (show decide (xs = ys) = true by simp; exact upTo_all (by rw [hla.out, hlb.out]) (fun j hj => hu j (by have := hla.out; omega)))
        clear hu
        go_wp2
        go_ret
        exact ⟨by rw [H.out]; rfl, hd⟩
  · have h' : ((n : Int) != (m : Int)) = true := by simp; omega
    have H := Lib.hid (show decide (xs = ys) = false by simp; rintro rfl; exact h (hla.out.symm.trans hlb.out))
    clear h
    go_enter Tryz.func71, Tryz.ntmps71
    go_wp2
    go_ret
    exact ⟨by rw [H.out]; rfl, Drawn.refl _⟩
set_option maxHeartbeats 400000 in
theorem eqInt64SS_any (A B : Option Addr) (n m c d : Nat) (xs ys : List (List Int)) (w : World) (ha : RR w A n xs) (hb : RR w B m ys) (hn : n ≤ 9223372036854775807) (hm : m ≤ 9223372036854775807) :
    Calls Tryz.prog 45 #[.slice A n c, .slice B m d] w (Quiet w (.bool (decide (xs = ys)))) := by
  have hla := Lib.hid ha.len
  have hlb := Lib.hid hb.len
  by_cases h : n = m
  · subst h
    go_enter Tryz.func45, Tryz.ntmps45
    go_wp2
    go_loopw [5] (fun i wr => ∃ k : Nat, k ≤ n ∧ i = .int .i64 k ∧ Drawn w wr ∧ upToR xs ys k) (fun i _ => n - (intOf i).toNat)
    case atStart => exact ⟨0, Nat.zero_le _, rfl, Drawn.refl _, fun _ h => absurd h (by omega)⟩
    case round =>
      obtain ⟨k, hk, rfl, hd, hu⟩ := hrel
      by_cases hlt : k < n
      · obtain ⟨a, A1, n1, c1, rfl, hca, hn1, hc1, ha1⟩ := (ha.drawn hd).get hlt
        obtain ⟨b, B1, m1, d1, rfl, hcb, hm1, hd1, hb1⟩ := (hb.drawn hd).get hlt
        by_cases he : row xs k = row ys k
        · have he' : decide (row xs k = row ys k) = true := by simp [he]
          have H := Lib.hid (upToR_step hu he); clear hu he
          go_wp2
          go_quiet ((go_at_call 102; exact Quiet.call (eqInt64S_any A1 B1 n1 m1 c1 d1 (row xs k) (row ys k) _ (ha1.drewN _) (hb1.drewN _) (by omega) (by omega))))
          go_wp2
          go_roundw
          case rel => exact ⟨k + 1, by omega, by go_num, hd.more _, H.out⟩
          case measure => simp [intOf]; omega
        · have he' : decide (row xs k = row ys k) = false := by simp [he]
          have H := Lib.hid (show decide (xs = ys) = false by simp; rintro rfl; exact he rfl)
          clear he hu
          go_wp2
          go_quiet ((go_at_call 102; exact Quiet.call (eqInt64S_any A1 B1 n1 m1 c1 d1 (row xs k) (row ys k) _ (ha1.drewN _) (hb1.drewN _) (by omega) (by omega))))
          go_wp2
          go_ret
          exact ⟨by rw [H.out]; rfl, hd.more _⟩
      · have H := Lib.hid (show decide (xs = ys) = true by simp; exact upToR_all (by rw [hla.out, hlb.out]) (fun j hj => hu j (by have := hla.out; omega)))
        clear hu
        go_wp2
        go_ret
        exact ⟨by rw [H.out]; rfl, hd⟩
  · have h' : ((n : Int) != (m : Int)) = true := by simp; omega
    have H := Lib.hid (show decide (xs = ys) = false by simp; rintro rfl; exact h (hla.out.symm.trans hlb.out))
    clear h
    go_enter Tryz.func45, Tryz.ntmps45
    go_wp2
    go_ret
    exact ⟨by rw [H.out]; rfl, Drawn.refl _⟩
set_option maxHeartbeats 400000 in
theorem equalFunc_any (A B : Option Addr) (n m c d : Nat) (xs ys : List (List Int)) (w : World) (ha : RR w A n xs) (hb : RR w B m ys) (hn : n ≤ 9223372036854775807) (hm : m ≤ 9223372036854775807) :
    Calls Tryz.prog 159 #[.slice A n c, .slice B m d, .func (.func 71) #[] #[]] w (Quiet w (.bool (decide (xs = ys)))) := by
  have hla := Lib.hid ha.len
  have hlb := Lib.hid hb.len
  by_cases h : n = m
  · subst h
    go_enter Tryz.func159, Tryz.ntmps159
    go_wp2
    go_loopw [7, 8, 9, 17] (fun _ _ _ i wr => ∃ k : Nat, k ≤ n ∧ i = .int .i64 k ∧ Drawn w wr ∧ upToR xs ys k) (fun _ _ _ i _ => n - (intOf i).toNat)
    case atStart => exact ⟨0, Nat.zero_le _, rfl, Drawn.refl _, fun _ h => absurd h (by omega)⟩
    case round =>
      obtain ⟨k, hk, rfl, hd, hu⟩ := hrel
      by_cases hlt : k < n
      · obtain ⟨a, A1, n1, c1, rfl, hca, hn1, hc1, ha1⟩ := (ha.drawn hd).get hlt
        obtain ⟨b, B1, m1, d1, rfl, hcb, hm1, hd1, hb1⟩ := (hb.drawn hd).get hlt
        by_cases he : row xs k = row ys k
        · have he' : decide (row xs k = row ys k) = true := by simp [he]
          have H := Lib.hid (upToR_step hu he); clear hu he
          go_wp2_with (go_at_call 71; refine (slicesEqual_any A1 B1 n1 m1 c1 d1 (row xs k) (row ys k) _ ha1 hb1 (by omega) (by omega)).mono ?_; rintro e w1 ⟨rfl, hd1⟩)
          go_roundw
          case rel => exact ⟨k + 1, by omega, by go_num, hd.trans hd1, H.out⟩
          case measure => simp [intOf]; omega
        · have he' : decide (row xs k = row ys k) = false := by simp [he]
          have H := Lib.hid (show decide (xs = ys) = false by simp; rintro rfl; exact he rfl)
          clear he hu
          go_wp2_with (go_at_call 71; refine (slicesEqual_any A1 B1 n1 m1 c1 d1 (row xs k) (row ys k) _ ha1 hb1 (by omega) (by omega)).mono ?_; rintro e w1 ⟨rfl, hd1⟩)
          go_ret
          exact ⟨by rw [H.out]; rfl, hd.trans hd1⟩
      · have H := Lib.hid (show decide (xs = ys) = true by simp; exact upToR_all (by rw [hla.out, hlb.out]) (fun j hj => hu j (by have := hla.out; omega)))
        clear hu
        go_wp2
        go_ret
        exact ⟨by rw [H.out]; rfl, hd⟩
  · have h' : ((n : Int) != (m : Int)) = true := by simp; omega
    have H := Lib.hid (show decide (xs = ys) = false by simp; rintro rfl; exact h (hla.out.symm.trans hlb.out))
    clear h
    go_enter Tryz.func159, Tryz.ntmps159
    go_wp2
    go_ret
    exact ⟨by rw [H.out]; rfl, Drawn.refl _⟩
set_option maxHeartbeats 400000 in
theorem areSame_any (A B : Option Addr) (n m c d : Nat) (xs ys : List (List Int)) (w : World) (ha : RR w A n xs) (hb : RR w B m ys) (hn : n ≤ 9223372036854775807) (hm : m ≤ 9223372036854775807) :
    Calls Tryz.prog 99 #[.slice A n c, .slice B m d] w (Quiet w (.bool (decide (xs = ys)))) := by
  go_enter Tryz.func99, Tryz.ntmps99
  go_wp2_with (go_at_call 159; refine (equalFunc_any _ _ _ _ _ _ xs ys _ ha hb hn hm).mono ?_; rintro e w1 ⟨rfl, hd1⟩)
  go_ret
  exact ⟨rfl, hd1⟩
structure Bel (W : World) where
  w : World
  h : Below W.heap.size W w
instance (W : World) : Inhabited (Bel W) := ⟨⟨W, Below.refl _ _⟩⟩
section
variable {P : Program} {W : World}
theorem wp_region_bel {id : Nat} {Q : Exit → Act → World → Prop} {a : Act} {l : List Oper} (hm : P.follows .mixedOrders = true) (hB : Region.lexB .any l.toArray = true)
    (h : wpQuiet P l.toArray (fun w' => ∃ p : Bel W, w' = p.w) (fun a' => ∀ w', (∃ p : Bel W, w' = p.w) → Q .normal a' w') l a) : (Code.region id l.toArray true).wp P Q a W :=
  wp_region_quiet (C := fun w' => ∃ p : Bel W, w' = p.w) hm hB ⟨⟨W.drewN 1, below_drewn _ 1⟩, rfl⟩ (by simpa using h)
theorem cell_bel {a : Addr} {v : Value} (h : W.cell? a = some v) (p : Bel W) : p.w.cell? a = some v := below_cell p.h h
theorem Calls.bel {f : FuncId} {args : Array Value} {p : Bel W} {v : Value} (h : Calls P f args p.w fun e w' => e = .returned v ∧ Below p.w.heap.size p.w w') :
    Calls P f args p.w fun e w'' => e = .returned v ∧ ∃ q : Bel W, w'' = q.w :=
  h.mono fun _ w' ⟨he, hb⟩ => ⟨he, ⟨w', below_then p.h hb⟩, rfl⟩
end
set_option maxHeartbeats 400000 in
theorem l00In_any (a lo hi : Int) (w : World) :
    Calls Tryz.prog 37 #[.int .i64 a, .int .i64 lo, .int .i64 hi] w fun e w' => e = .returned (.bool (inB a lo hi)) ∧ w = w' := by
  go_enter Tryz.func37, Tryz.ntmps37
  go_wp2
  · go_ret
    have h : lo ≤ a := by assumption
    exact ⟨by simp [inB, h], rfl⟩
  · go_ret
    have h : a < lo := by assumption
    exact ⟨by simp [inB, show ¬ lo ≤ a by omega], rfl⟩
set_option maxHeartbeats 400000 in
theorem within_any (a lo hi : Int) (w : World) :
    Calls Tryz.prog 73 #[.int .i64 a, .int .i64 lo, .int .i64 hi] w fun e w' => e = .returned (.bool (inB a lo hi)) ∧ w = w' := by
  go_enter Tryz.func73, Tryz.ntmps73
  go_wp2
  · go_ret
    have h : lo ≤ a := by assumption
    exact ⟨by simp [inB, h], rfl⟩
  · go_ret
    have h : a < lo := by assumption
    exact ⟨by simp [inB, show ¬ lo ≤ a by omega], rfl⟩
theorem int_info : (Tryz.prog.info? 2).map (fun i => (i.zero, i.size, i.bytes)) = some (some (.int .i64 0), 1, 8) := by kernel_rfl
theorem ints_info : (Tryz.prog.info? 22).map (fun i => (i.zero, i.size, i.bytes)) = some (some (.slice none 0 0), 1, 24) := by kernel_rfl
theorem RI.all64 {w : World} {A : Option Addr} {n : Nat} {zs : List Int} (h : RI w A n zs) : All64 zs := fun z hz => by
  obtain ⟨j, hj, rfl⟩ := List.mem_iff_getElem.1 hz
  obtain ⟨ad, ha, hc, hi⟩ := h.get (k := j) (by rw [← h.len]; exact hj)
  rwa [nth_get hj] at hi
theorem RI.news {w : World} {A : Option Addr} {n : Nat} {zs : List Int} (h : RI w A n zs) : ∀ j u, (ints zs)[j]? = some u → ∃ ad, A = some ad ∧ w.cell? (ad.add j) = some u := fun j u hu => by
  rw [ints, List.getElem?_map] at hu
  cases hz : zs[j]? with
  | none => rw [hz] at hu; simp at hu
  | some z =>
    rw [hz] at hu
    obtain ⟨ad, v, ha, hc, rfl, _⟩ := RS.at_ h j z hz
    injection hu with hu
    subst hu
    exact ⟨ad, ha, hc⟩
set_option maxHeartbeats 400000 in
theorem sizeI_any (A : Option Addr) (n c : Nat) (w : World) (_ : n ≤ 9223372036854775807) : Calls Tryz.prog 70 #[.slice A n c] w fun e w' => e = .returned (.int .i64 n) ∧ w = w' := by
  go_enter Tryz.func70, Tryz.ntmps70
  go_wp2
  go_ret
  exact ⟨rfl, rfl⟩
set_option maxHeartbeats 400000 in
theorem sizeR_any (A : Option Addr) (n c : Nat) (w : World) (_ : n ≤ 9223372036854775807) : Calls Tryz.prog 96 #[.slice A n c] w fun e w' => e = .returned (.int .i64 n) ∧ w = w' := by
  go_enter Tryz.func96, Tryz.ntmps96
  go_wp2
  go_ret
  exact ⟨rfl, rfl⟩
set_option maxHeartbeats 400000 in
theorem clone_any (A : Option Addr) (n c : Nat) (zs : List Int) (w : World) (ha : RI w A n zs) (hn : n ≤ 1099511627776) :
    Calls Tryz.prog 81 #[.slice A n c] w (RetI w 2 zs) := by
  have hq := fun (wx : World) => Lib.run_eql_slice_nil (P := Tryz.prog) wx 22 2 A n c 0 0 Tryz.underlying22
  cases A with
  | none =>
    have h0 : zs = [] := by
      rcases Nat.eq_zero_or_pos n with h | h
      · exact List.eq_nil_of_length_eq_zero (by rw [ha.len, h])
      · obtain ⟨ad, h', _⟩ := ha.get h
        cases h'
    subst h0
    simp only [Option.isNone_none] at hq
    go_enter Tryz.func81, Tryz.ntmps81
    go_wp2
    go_ret
    exact ⟨_, _, _, rfl, OI.nil_ _ _ _, Below.refl _ _⟩
  | some a =>
    simp only [Option.isNone_some] at hq
    have ho := OI.lit w w.heap.size 2 [] (Nat.le_refl _) (by simp) All64.nil_
    have hb := below_alloc w (.cells (ints []).toArray 2)
    have hr := ha.keep hb
    have hl := Lib.hid ha.len
    have hal := ha.all64
    clear ha
    go_enter Tryz.func81, Tryz.ntmps81
    go_wp2_with (at_builtin; refine wpList_app _ rfl _ _ 22 rfl 2 (.int .i64 0) 1 8 Tryz.underlying22 int_info rfl (by omega) (by omega) w.heap.size _ 0 0 (ints []) rfl ho.os _ n c (ints zs) rfl (by simp [ints, hl.out]) hr.news (ints_oneCell _) (by omega) (by simp) ?_; intro A2 c2 w2 ho2 hg2 hn2)
    have hw2 := below_own hb hg2 (by simp) (fun b hb => (ho.os.lt hb).1)
    have hi2 := OI.cat ho2 All64.nil_ hal
    clear ho hb hr ho2 hg2 hn2
    go_wp2
    go_ret
    exact ⟨A2, n, c2, by simp, by simpa using hi2, hw2⟩
set_option maxHeartbeats 400000 in
theorem l00Own_any (A : Option Addr) (n c : Nat) (zs : List Int) (w : World) (ha : RI w A n zs) (hn : n ≤ 1099511627776) :
    Calls Tryz.prog 169 #[.slice A n c] w (RetI w 2 zs) := by
  have ho := OI.lit w w.heap.size 2 [] (Nat.le_refl _) (by simp) All64.nil_
  have hb := below_alloc w (.cells (ints []).toArray 2)
  have hr := ha.keep hb
  have hl := Lib.hid ha.len
  have hal := ha.all64
  clear ha
  go_enter Tryz.func169, Tryz.ntmps169
  go_wp2_with (at_builtin; refine wpList_app _ rfl _ _ 22 rfl 2 (.int .i64 0) 1 8 Tryz.underlying22 int_info rfl (by omega) (by omega) w.heap.size _ 0 0 (ints []) rfl ho.os _ n c (ints zs) rfl (by simp [ints, hl.out]) hr.news (ints_oneCell _) (by omega) (by simp) ?_; intro A2 c2 w2 ho2 hg2 hn2)
  have hw2 := below_own hb hg2 (by simp) (fun b hb => (ho.os.lt hb).1)
  have hi2 := OI.cat ho2 All64.nil_ hal
  clear ho hb hr ho2 hg2 hn2
  go_wp2
  go_ret
  exact ⟨A2, n, c2, by simp, by simpa using hi2, hw2⟩
theorem row_le_cells (zss : List (List Int)) {j : Nat} (h : j < zss.length) : (row zss j).length ≤ cells zss := by
  have h1 := cells_take zss h
  have h2 := cells_le zss (j + 1)
  omega
theorem take_row {zss : List (List Int)} {j : Nat} (h : j < zss.length) : zss.take (j + 1) = zss.take j ++ [row zss j] := by
  rw [List.take_succ_eq_append_getElem h, row_get h]
theorem OR.of_own {w : World} {B : Nat} {e2 e1 : TypeId} {A : Option Addr} {n c : Nat} (h : OS w B e2 1 A n c []) (hne : e2 ≠ e1) : OR w B e2 e1 A n c [] :=
  ⟨[], by simpa using h, rfl, fun _ _ _ h => by simp at h, fun _ _ _ _ _ h => by simp at h, hne⟩
set_option maxHeartbeats 1000000 in
theorem copyLists_any (A : Option Addr) (n c : Nat) (zss : List (List Int)) (w : World) (ha : RR w A n zss) (hn : n ≤ 1099511627776) (hr : cells zss ≤ 1099511627776) :
    Calls Tryz.prog 138 #[.slice A n c] w (RetR w 22 2 zss) := by
  have hla := Lib.hid ha.len
  have HR := Lib.hid (show ∀ k, k < n → (row zss k).length ≤ 1099511627776 from fun k hk => Nat.le_trans (row_le_cells zss (by rw [hla.out]; exact hk)) hr)
  go_enter Tryz.func138, Tryz.ntmps138
  go_wp2
  go_loopw [3, 8] (fun v i wr => ∃ (j : Nat) (A' : Option Addr) (c' : Nat), i = .int .i64 j ∧ j ≤ n ∧ v = .slice A' j c' ∧ OR wr w.heap.size 22 2 A' j c' (zss.take j) ∧ Below w.heap.size w wr) (fun _ i _ => n - (intOf i).toNat)
  case atStart => exact ⟨0, none, 0, rfl, Nat.zero_le _, rfl, OR.nil_ _ _ (by decide), Below.refl _ _⟩
  case round =>
    obtain ⟨j, A', c', rfl, hj, rfl, ho, hw⟩ := hrel
    by_cases hlt : j < n
    · obtain ⟨a, A1, n1, c1, rfl, hcs, hn1, hc1, hrs⟩ := (ha.keep hw).get hlt
      have hl1 : n1 ≤ 1099511627776 := by have := HR.out j hlt; rw [hrs.len] at this; exact this
      go_wp2_with fail
      refine (clone_any A1 n1 c1 (row zss j) _ hrs hl1).mono ?_
      rintro e w1 ⟨A2, n2, c2, rfl, ho2, hb2⟩
      have hw1 := hw.trans (hb2.mono hw.size)
      obtain ⟨vs, hov⟩ := ho
      have hap := hov.apart_new (v := (A2, n2, c2)) (fun b hb => (ho2.os.lt hb).1)
      have ho1 := hov.below hb2
      have hr2 := ho2.more hw.size
      clear hov hw ho2 hb2 hcs hrs
      go_wp2_with (at_builtin; refine wpList_app1 _ rfl _ _ 25 rfl 22 (.slice none 0 0) 24 Tryz.underlying25 ints_info rfl (by omega) w.heap.size A' j c' (vs.map slv) rfl ho1.os (.slice A2 n2 c2) rfl rfl (by omega) hw1.size ?_; intro A3 c3 w3 ho3 hg3 hn3)
      have hw3 := below_own hw1 hg3 hw1.size (fun b hb => (ho1.os.lt hb).1)
      have hi3 := ho1.push (v := (A2, n2, c2)) hr2 hap hg3 ho3
      rw [← take_row (by rw [hla.out]; exact hlt)] at hi3
      clear ho1 hr2 hap ho3 hg3 hn3 hw1
      go_wp2
      go_roundw
      case rel => exact ⟨j + 1, A3, c3, by go_num, by omega, rfl, hi3, hw3⟩
      case measure => simp [intOf]; omega
    · obtain rfl : j = n := by omega
      have ho' : OR wr w.heap.size 22 2 A' j c' zss := by rw [← hla.out] at ho; rw [List.take_length] at ho; rw [hla.out] at ho; exact ho
      clear ho
      go_wp2
      go_ret
      exact ⟨_, _, _, rfl, ho', hw⟩
set_option maxHeartbeats 1000000 in
theorem l17Own_any (A : Option Addr) (n c : Nat) (zss : List (List Int)) (w : World) (ha : RR w A n zss) (hn : n ≤ 1099511627776) (hr : cells zss ≤ 1099511627776) :
    Calls Tryz.prog 170 #[.slice A n c] w (RetR w 22 2 zss) := by
  have hla := Lib.hid ha.len
  have HR := Lib.hid (show ∀ k, k < n → (row zss k).length ≤ 1099511627776 from fun k hk => Nat.le_trans (row_le_cells zss (by rw [hla.out]; exact hk)) hr)
  have ho0 := OR.of_own (e1 := 2) (OS.lit w w.heap.size 22 1 0 #[] (Nat.le_refl _) rfl (by omega)) (by decide)
  have hb0 := below_alloc w (.cells #[] 22)
  go_enter Tryz.func170, Tryz.ntmps170
  go_wp2
  go_loopw [3, 4] (fun v i wr => ∃ (j : Nat) (A' : Option Addr) (c' : Nat), i = .int .i64 j ∧ j ≤ n ∧ v = .slice A' j c' ∧ OR wr w.heap.size 22 2 A' j c' (zss.take j) ∧ Below w.heap.size w wr) (fun _ i _ => n - (intOf i).toNat)
  case atStart => exact ⟨0, _, _, rfl, Nat.zero_le _, rfl, ho0, hb0⟩
  case round =>
    obtain ⟨j, A', c', rfl, hj, rfl, ho, hw⟩ := hrel
    clear ho0 hb0
    by_cases hlt : j < n
    · obtain ⟨a, A1, n1, c1, rfl, hcs, hn1, hc1, hrs⟩ := (ha.keep hw).get hlt
      have hl1 : n1 ≤ 1099511627776 := by have := HR.out j hlt; rw [hrs.len] at this; exact this
      go_wp2_with fail
      refine (l00Own_any A1 n1 c1 (row zss j) _ hrs hl1).mono ?_
      rintro e w1 ⟨A2, n2, c2, rfl, ho2, hb2⟩
      have hw1 := hw.trans (hb2.mono hw.size)
      obtain ⟨vs, hov⟩ := ho
      have hap := hov.apart_new (v := (A2, n2, c2)) (fun b hb => (ho2.os.lt hb).1)
      have ho1 := hov.below hb2
      have hr2 := ho2.more hw.size
      clear hov hw ho2 hb2 hcs hrs
      go_wp2_with (at_builtin; refine wpList_app1 _ rfl _ _ 25 rfl 22 (.slice none 0 0) 24 Tryz.underlying25 ints_info rfl (by omega) w.heap.size A' j c' (vs.map slv) rfl ho1.os (.slice A2 n2 c2) rfl rfl (by omega) hw1.size ?_; intro A3 c3 w3 ho3 hg3 hn3)
      have hw3 := below_own hw1 hg3 hw1.size (fun b hb => (ho1.os.lt hb).1)
      have hi3 := ho1.push (v := (A2, n2, c2)) hr2 hap hg3 ho3
      rw [← take_row (by rw [hla.out]; exact hlt)] at hi3
      clear ho1 hr2 hap ho3 hg3 hn3 hw1
      go_wp2
      go_roundw
      case rel => exact ⟨j + 1, A3, c3, by go_num, by omega, rfl, hi3, hw3⟩
      case measure => simp [intOf]; omega
    · obtain rfl : j = n := by omega
      have ho' : OR wr w.heap.size 22 2 A' j c' zss := by rw [← hla.out] at ho; rw [List.take_length] at ho; rw [hla.out] at ho; exact ho
      clear ho
      go_wp2
      go_ret
      exact ⟨_, _, _, rfl, ho', hw⟩
section
variable {w w' : World} {B : Nat} {e2 e1 : TypeId} {A : Option Addr} {n c : Nat} {vs : List Sl} {zss : List (List Int)}
theorem ORv.push' (h : ORv w B e2 e1 A n c vs zss) {v : Sl} {z : List Int} (ho : OI w B e1 v.1 v.2.1 v.2.2 z) (hap : ∀ (j : Nat) (u : Sl), vs[j]? = some u → apart u v)
    {A' : Option Addr} {c' : Nat} (hg : w.grownBy w' (blk A)) (hos : OS w' B e2 1 A' (n + 1) c' (vs.map slv ++ [.slice v.1 v.2.1 v.2.2])) : ORv w' B e2 e1 A' (n + 1) c' (vs ++ [v]) (zss ++ [z]) := by
  have hvA : blk v.1 = none ∨ blk v.1 ≠ blk A := OS.typed ho.os h.os (fun e => h.ne e.symm)
  refine ⟨by simpa [slv] using hos, by simp [h.len], fun j u y hu hy => ?_, fun i j u x hij hu hx => ?_, h.ne⟩
  · rw [List.getElem?_append] at hu hy
    rw [h.len] at hu
    split at hu
    · rename_i hj
      rw [if_pos hj] at hy
      exact (h.rows j u y hu hy).kept hg (h.outer_row hu)
    · rename_i hj
      rw [if_neg hj] at hy
      have e : j - zss.length = 0 := by
        have := (List.getElem?_eq_some_iff.1 hu).1
        simp at this; omega
      rw [e] at hu hy
      simp at hu hy
      subst hu; subst hy
      exact ho.kept hg hvA
  · rw [List.getElem?_append] at hu hx
    split at hu
    · split at hx
      · exact h.sep i j u x hij hu hx
      · have : x = v := by
          have := List.mem_of_getElem? hx
          simpa using this
        subst this
        exact hap i u hu
    · have hu' : u = v := by
        have := List.mem_of_getElem? hu
        simpa using this
      subst hu'
      split at hx
      · exact (hap j x hx).symm
      · rename_i h1 h2
        have a1 := (List.getElem?_eq_some_iff.1 hu).1
        have a2 := (List.getElem?_eq_some_iff.1 hx).1
        simp at a1 a2
        omega
end
section
variable {ops : Array Oper} {rest : List Oper} {o : Oper} {a : Act} {Q : Exit → Act → World → Prop}
theorem app_int (w : World) (hgd : o.guard = none) (s x : Operand) (ho : o.op = .call { callee := .builtin .append, args := #[s, x], argTypes := #[22, 22] })
    (B : Nat) (A : Option Addr) (n c : Nat) (zs : List Int) (hs : a.eval s = .slice A n c) (hown : OI w B 2 A n c zs) (u : Int) (g : Nat) (hx : a.eval x = .slice (some ⟨g, 0, none⟩) 1 1) (hgx : g = w.heap.size)
    (hu : I64 u) (hbig : n + 1 ≤ 2199023255552) (hB : B ≤ w.heap.size)
    (h : ∀ A' c' w', OI w' B 2 A' (n + 1) c' (zs ++ [u]) → w.grownBy w' (blk A) → (blk A' = blk A ∨ ∃ k, blk A' = some k ∧ w.heap.size ≤ k) → wpList Tryz.prog ops Q rest (a.put o.dst (.slice A' (n + 1) c')) w') :
    wpList Tryz.prog ops Q (o :: rest) a (w.alloc (.cells #[.int .i64 u] 2)) :=
  wpList_app1' w hgd s x 22 ho 2 (.int .i64 0) 8 Tryz.underlying22 int_info rfl (by omega) B A n c (ints zs) hs hown.os (.int .i64 u) g hx hgx rfl hbig hB
    fun A' c' w' h1 h2 h3 => h A' c' w' (OI.snoc h1 hown.all hu) h2 h3
theorem app_ints (w : World) (hgd : o.guard = none) (s x : Operand) (ho : o.op = .call { callee := .builtin .append, args := #[s, x], argTypes := #[22, 22] })
    (B : Nat) (A : Option Addr) (n c : Nat) (zs : List Int) (hs : a.eval s = .slice A n c) (hown : OI w B 2 A n c zs) (A2 : Option Addr) (m c2 : Nat) (ys : List Int) (hx : a.eval x = .slice A2 m c2) (hr : RI w A2 m ys)
    (hbig : n + m ≤ 2199023255552) (hB : B ≤ w.heap.size)
    (h : ∀ A' c' w', OI w' B 2 A' (n + m) c' (zs ++ ys) → w.grownBy w' (blk A) → (blk A' = blk A ∨ blk A' = some w.heap.size) → wpList Tryz.prog ops Q rest (a.put o.dst (.slice A' (n + m) c')) w') :
    wpList Tryz.prog ops Q (o :: rest) a w :=
  wpList_app w hgd s x 22 ho 2 (.int .i64 0) 1 8 Tryz.underlying22 int_info rfl (by omega) (by omega) B A n c (ints zs) hs hown.os A2 m c2 (ints ys) hx (by have := hr.len; simp [ints, this]) hr.news (ints_oneCell ys) hbig hB
    fun A' c' w' h1 h2 h3 => h A' c' w' (OI.cat h1 hown.all hr.all64) h2 h3
theorem app_row (w : World) (hgd : o.guard = none) (s x : Operand) (ho : o.op = .call { callee := .builtin .append, args := #[s, x], argTypes := #[25, 25] })
    (B : Nat) (A : Option Addr) (n c : Nat) (vs : List Sl) (zss : List (List Int)) (hs : a.eval s = .slice A n c) (hown : ORv w B 22 2 A n c vs zss) (v : Sl) (z : List Int) (hv : OI w B 2 v.1 v.2.1 v.2.2 z) (hap : ∀ (j : Nat) (u : Sl), vs[j]? = some u → apart u v)
    (g : Nat) (hx : a.eval x = .slice (some ⟨g, 0, none⟩) 1 1) (hgx : g = w.heap.size) (hbig : n + 1 ≤ 2199023255552) (hB : B ≤ w.heap.size)
    (h : ∀ A' c' w', ORv w' B 22 2 A' (n + 1) c' (vs ++ [v]) (zss ++ [z]) → w.grownBy w' (blk A) → (blk A' = blk A ∨ ∃ k, blk A' = some k ∧ w.heap.size ≤ k) → wpList Tryz.prog ops Q rest (a.put o.dst (.slice A' (n + 1) c')) w') :
    wpList Tryz.prog ops Q (o :: rest) a (w.alloc (.cells #[.slice v.1 v.2.1 v.2.2] 22)) :=
  wpList_app1' w hgd s x 25 ho 22 (.slice none 0 0) 24 Tryz.underlying25 ints_info rfl (by omega) B A n c (vs.map slv) hs hown.os (.slice v.1 v.2.1 v.2.2) g hx hgx rfl hbig hB
    fun A' c' w' h1 h2 h3 => h A' c' w' (ORv.push' hown hv hap h2 h1) h2 h3
end
end Go.Proofs.YtdkbcjdimhgmnaaGreat
