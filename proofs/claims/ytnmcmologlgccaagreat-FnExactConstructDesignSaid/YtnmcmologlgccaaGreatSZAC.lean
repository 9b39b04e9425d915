/- Copies of lists, on both sides: memory of the call's own that reads the same. No condition beyond those stated. -/
import Derived.Test.YtnmcmologlgccaaGreatSZAB
import Derived.Shelf.SlGeneric
import Derived.Shelf.SortM.Plain
import Derived.Shelf.SortM.SortNone
import Derived.Ground.SlgmProg
import Derived.Sort.OwnSortedInts
import Derived.Shelf.GgClosure.Gives
set_option linter.unusedVariables false
set_option linter.unusedSimpArgs false
namespace Go.Proofs.YtnmcmologlgccaaGreat
open Go.RowKit
theorem RI.all64 {w : World} {A : Option Addr} {n : Nat} {zs : List Int} (h : RI w A n zs) : All64 zs := fun z hz => by
  obtain ⟨j, hj, rfl⟩ := List.mem_iff_getElem.1 hz
  obtain ⟨ad, ha, hc, hi⟩ := h.get (k := j) (by rw [← h.len]; exact hj)
  rwa [nth_get hj] at hi
theorem RI.news {w : World} {A : Option Addr} {n : Nat} {zs : List Int} (h : RI w A n zs) : ∀ j u, (ints zs)[j]? = some u → ∃ ad, A = some ad ∧ w.cell? (ad.add j) = some u := fun j u hu => by
  rw [ints, List.getElem?_map] at hu
  cases hz : zs[j]? with
  | none => rw [hz] at hu; simp at hu
  | some z =>
    rw [hz] at hu
    obtain ⟨ad, v, ha, hc, rfl, _⟩ := RS.at_ h j z hz
    injection hu with hu
    subst hu
    exact ⟨ad, ha, hc⟩
set_option maxHeartbeats 400000 in
theorem sizeI_any (A : Option Addr) (n c : Nat) (w : World) (_ : n ≤ 9223372036854775807) : Calls Tryz.prog 48 #[.slice A n c] w fun e w' => e = .returned (.int .i64 n) ∧ w = w' := by
  go_enter Tryz.func48, Tryz.ntmps48
  go_wp2
  go_ret
  exact ⟨rfl, rfl⟩
set_option maxHeartbeats 400000 in
theorem sizeR_any (A : Option Addr) (n c : Nat) (w : World) (_ : n ≤ 9223372036854775807) : Calls Tryz.prog 24 #[.slice A n c] w fun e w' => e = .returned (.int .i64 n) ∧ w = w' := by
  go_enter Tryz.func24, Tryz.ntmps24
  go_wp2
  go_ret
  exact ⟨rfl, rfl⟩
set_option maxHeartbeats 400000 in
theorem clone_any (A : Option Addr) (n c : Nat) (zs : List Int) (w : World) (ha : RI w A n zs) (hn : n ≤ 1099511627776) :
    Calls Tryz.prog 60 #[.slice A n c] w (RetI w 2 zs) := by
  have hq := fun (wx : World) => Lib.run_eql_slice_nil (P := Tryz.prog) wx 36 2 A n c 0 0 Tryz.underlying36
  cases A with
  | none =>
    have h0 : zs = [] := by
      rcases Nat.eq_zero_or_pos n with h | h
      · exact List.eq_nil_of_length_eq_zero (by rw [ha.len, h])
      · obtain ⟨ad, h', _⟩ := ha.get h
        cases h'
    subst h0
    simp only [Option.isNone_none] at hq
    go_enter Tryz.func60, Tryz.ntmps60
    go_wp2
    go_ret
    exact ⟨_, _, _, rfl, OI.nil_ _ _ _, Below.refl _ _⟩
  | some a =>
    simp only [Option.isNone_some] at hq
    have ho := OI.lit w w.heap.size 2 [] (Nat.le_refl _) (by simp) All64.nil_
    have hb := below_alloc w (.cells (ints []).toArray 2)
    have hr := ha.keep hb
    have hl := Lib.hid ha.len
    have hal := ha.all64
    clear ha
    go_enter Tryz.func60, Tryz.ntmps60
    go_wp2_with (at_builtin; refine wpList_app _ rfl _ _ 36 rfl 2 (.int .i64 0) 1 8 Tryz.underlying36 int_info rfl (by omega) (by omega) w.heap.size _ 0 0 (ints []) rfl ho.os _ n c (ints zs) rfl (by simp [ints, hl.out]) hr.news (ints_oneCell _) (by omega) (by simp) ?_; intro A2 c2 w2 ho2 hg2 hn2)
    have hw2 := below_own hb hg2 (by simp) (fun b hb => (ho.os.lt hb).1)
    have hi2 := OI.cat ho2 All64.nil_ hal
    clear ho hb hr ho2 hg2 hn2
    go_wp2
    go_ret
    exact ⟨A2, n, c2, by simp, by simpa using hi2, hw2⟩
set_option maxHeartbeats 400000 in
theorem l00Own_any (A : Option Addr) (n c : Nat) (zs : List Int) (w : World) (ha : RI w A n zs) (hn : n ≤ 1099511627776) :
    Calls Tryz.prog 33 #[.slice A n c] w (RetI w 2 zs) := by
  have ho := OI.lit w w.heap.size 2 [] (Nat.le_refl _) (by simp) All64.nil_
  have hb := below_alloc w (.cells (ints []).toArray 2)
  have hr := ha.keep hb
  have hl := Lib.hid ha.len
  have hal := ha.all64
  clear ha
  go_enter Tryz.func33, Tryz.ntmps33
  go_wp2_with (at_builtin; refine wpList_app _ rfl _ _ 36 rfl 2 (.int .i64 0) 1 8 Tryz.underlying36 int_info rfl (by omega) (by omega) w.heap.size _ 0 0 (ints []) rfl ho.os _ n c (ints zs) rfl (by simp [ints, hl.out]) hr.news (ints_oneCell _) (by omega) (by simp) ?_; intro A2 c2 w2 ho2 hg2 hn2)
  have hw2 := below_own hb hg2 (by simp) (fun b hb => (ho.os.lt hb).1)
  have hi2 := OI.cat ho2 All64.nil_ hal
  clear ho hb hr ho2 hg2 hn2
  go_wp2
  go_ret
  exact ⟨A2, n, c2, by simp, by simpa using hi2, hw2⟩
theorem row_le_cells (zss : List (List Int)) {j : Nat} (h : j < zss.length) : (row zss j).length ≤ cells zss := by
  have h1 := cells_take zss h
  have h2 := cells_le zss (j + 1)
  omega
theorem take_row {zss : List (List Int)} {j : Nat} (h : j < zss.length) : zss.take (j + 1) = zss.take j ++ [row zss j] := by
  rw [List.take_succ_eq_append_getElem h, row_get h]
theorem OR.of_own {w : World} {B : Nat} {e2 e1 : TypeId} {A : Option Addr} {n c : Nat} (h : OS w B e2 1 A n c []) (hne : e2 ≠ e1) : OR w B e2 e1 A n c [] :=
  ⟨[], by simpa using h, rfl, fun _ _ _ h => by simp at h, fun _ _ _ _ _ h => by simp at h, hne⟩
set_option maxHeartbeats 1000000 in
theorem copyLists_any (A : Option Addr) (n c : Nat) (zss : List (List Int)) (w : World) (ha : RR w A n zss) (hn : n ≤ 1099511627776) (hr : cells zss ≤ 1099511627776) :
    Calls Tryz.prog 41 #[.slice A n c] w (RetR w 36 2 zss) := by
  have hla := Lib.hid ha.len
  have HR := Lib.hid (show ∀ k, k < n → (row zss k).length ≤ 1099511627776 from fun k hk => Nat.le_trans (row_le_cells zss (by rw [hla.out]; exact hk)) hr)
  go_enter Tryz.func41, Tryz.ntmps41
  go_wp2
  go_loopw [3, 8] (fun v i wr => ∃ (j : Nat) (A' : Option Addr) (c' : Nat), i = .int .i64 j ∧ j ≤ n ∧ v = .slice A' j c' ∧ OR wr w.heap.size 36 2 A' j c' (zss.take j) ∧ Below w.heap.size w wr) (fun _ i _ => n - (intOf i).toNat)
  case atStart => exact ⟨0, none, 0, rfl, Nat.zero_le _, rfl, OR.nil_ _ _ (by decide), Below.refl _ _⟩
  case round =>
    obtain ⟨j, A', c', rfl, hj, rfl, ho, hw⟩ := hrel
    by_cases hlt : j < n
    · obtain ⟨a, A1, n1, c1, rfl, hcs, hn1, hc1, hrs⟩ := (ha.keep hw).get hlt
      have hl1 : n1 ≤ 1099511627776 := by have := HR.out j hlt; rw [hrs.len] at this; exact this
      go_wp2_with fail
      refine (clone_any A1 n1 c1 (row zss j) _ hrs hl1).mono ?_
      rintro e w1 ⟨A2, n2, c2, rfl, ho2, hb2⟩
      have hw1 := hw.trans (hb2.mono hw.size)
      obtain ⟨vs, hov⟩ := ho
      have hap := hov.apart_new (v := (A2, n2, c2)) (fun b hb => (ho2.os.lt hb).1)
      have ho1 := hov.below hb2
      have hr2 := ho2.more hw.size
      clear hov hw ho2 hb2 hcs hrs
      go_wp2_with (at_builtin; refine wpList_app1 _ rfl _ _ 26 rfl 36 (.slice none 0 0) 24 Tryz.underlying26 ints_info rfl (by omega) w.heap.size A' j c' (vs.map slv) rfl ho1.os (.slice A2 n2 c2) rfl rfl (by omega) hw1.size ?_; intro A3 c3 w3 ho3 hg3 hn3)
      have hw3 := below_own hw1 hg3 hw1.size (fun b hb => (ho1.os.lt hb).1)
      have hi3 := ho1.push (v := (A2, n2, c2)) hr2 hap hg3 ho3
      rw [← take_row (by rw [hla.out]; exact hlt)] at hi3
      clear ho1 hr2 hap ho3 hg3 hn3 hw1
      go_wp2
      go_roundw
      case rel => exact ⟨j + 1, A3, c3, by go_num, by omega, rfl, hi3, hw3⟩
      case measure => simp [intOf]; omega
    · obtain rfl : j = n := by omega
      have ho' : OR wr w.heap.size 36 2 A' j c' zss := by rw [← hla.out] at ho; rw [List.take_length] at ho; rw [hla.out] at ho; exact ho
      clear ho
      go_wp2
      go_ret
      exact ⟨_, _, _, rfl, ho', hw⟩
set_option maxHeartbeats 1000000 in
theorem l17Own_any (A : Option Addr) (n c : Nat) (zss : List (List Int)) (w : World) (ha : RR w A n zss) (hn : n ≤ 1099511627776) (hr : cells zss ≤ 1099511627776) :
    Calls Tryz.prog 171 #[.slice A n c] w (RetR w 36 2 zss) := by
  have hla := Lib.hid ha.len
  have HR := Lib.hid (show ∀ k, k < n → (row zss k).length ≤ 1099511627776 from fun k hk => Nat.le_trans (row_le_cells zss (by rw [hla.out]; exact hk)) hr)
  have ho0 := OR.of_own (e1 := 2) (OS.lit w w.heap.size 36 1 0 #[] (Nat.le_refl _) rfl (by omega)) (by decide)
  have hb0 := below_alloc w (.cells #[] 36)
  go_enter Tryz.func171, Tryz.ntmps171
  go_wp2
  go_loopw [3, 4] (fun v i wr => ∃ (j : Nat) (A' : Option Addr) (c' : Nat), i = .int .i64 j ∧ j ≤ n ∧ v = .slice A' j c' ∧ OR wr w.heap.size 36 2 A' j c' (zss.take j) ∧ Below w.heap.size w wr) (fun _ i _ => n - (intOf i).toNat)
  case atStart => exact ⟨0, _, _, rfl, Nat.zero_le _, rfl, ho0, hb0⟩
  case round =>
    obtain ⟨j, A', c', rfl, hj, rfl, ho, hw⟩ := hrel
    clear ho0 hb0
    by_cases hlt : j < n
    · obtain ⟨a, A1, n1, c1, rfl, hcs, hn1, hc1, hrs⟩ := (ha.keep hw).get hlt
      have hl1 : n1 ≤ 1099511627776 := by have := HR.out j hlt; rw [hrs.len] at this; exact this
      go_wp2_with fail
      refine (l00Own_any A1 n1 c1 (row zss j) _ hrs hl1).mono ?_
      rintro e w1 ⟨A2, n2, c2, rfl, ho2, hb2⟩
      have hw1 := hw.trans (hb2.mono hw.size)
      obtain ⟨vs, hov⟩ := ho
      have hap := hov.apart_new (v := (A2, n2, c2)) (fun b hb => (ho2.os.lt hb).1)
      have ho1 := hov.below hb2
      have hr2 := ho2.more hw.size
      clear hov hw ho2 hb2 hcs hrs
      go_wp2_with (at_builtin; refine wpList_app1 _ rfl _ _ 26 rfl 36 (.slice none 0 0) 24 Tryz.underlying26 ints_info rfl (by omega) w.heap.size A' j c' (vs.map slv) rfl ho1.os (.slice A2 n2 c2) rfl rfl (by omega) hw1.size ?_; intro A3 c3 w3 ho3 hg3 hn3)
      have hw3 := below_own hw1 hg3 hw1.size (fun b hb => (ho1.os.lt hb).1)
      have hi3 := ho1.push (v := (A2, n2, c2)) hr2 hap hg3 ho3
      rw [← take_row (by rw [hla.out]; exact hlt)] at hi3
      clear ho1 hr2 hap ho3 hg3 hn3 hw1
      go_wp2
      go_roundw
      case rel => exact ⟨j + 1, A3, c3, by go_num, by omega, rfl, hi3, hw3⟩
      case measure => simp [intOf]; omega
    · obtain rfl : j = n := by omega
      have ho' : OR wr w.heap.size 36 2 A' j c' zss := by rw [← hla.out] at ho; rw [List.take_length] at ho; rw [hla.out] at ho; exact ho
      clear ho
      go_wp2
      go_ret
      exact ⟨_, _, _, rfl, ho', hw⟩
section
variable {w w' : World} {B : Nat} {e2 e1 : TypeId} {A : Option Addr} {n c : Nat} {vs : List Sl} {zss : List (List Int)}
theorem ORv.push' (h : ORv w B e2 e1 A n c vs zss) {v : Sl} {z : List Int} (ho : OI w B e1 v.1 v.2.1 v.2.2 z) (hap : ∀ (j : Nat) (u : Sl), vs[j]? = some u → apart u v)
    {A' : Option Addr} {c' : Nat} (hg : w.grownBy w' (blk A)) (hos : OS w' B e2 1 A' (n + 1) c' (vs.map slv ++ [.slice v.1 v.2.1 v.2.2])) : ORv w' B e2 e1 A' (n + 1) c' (vs ++ [v]) (zss ++ [z]) := by
  have hvA : blk v.1 = none ∨ blk v.1 ≠ blk A := OS.typed ho.os h.os (fun e => h.ne e.symm)
  refine ⟨by simpa [slv] using hos, by simp [h.len], fun j u y hu hy => ?_, fun i j u x hij hu hx => ?_, h.ne⟩
  · rw [List.getElem?_append] at hu hy
    rw [h.len] at hu
    split at hu
    · rename_i hj
      rw [if_pos hj] at hy
      exact (h.rows j u y hu hy).kept hg (h.outer_row hu)
    · rename_i hj
      rw [if_neg hj] at hy
      have e : j - zss.length = 0 := by
        have := (List.getElem?_eq_some_iff.1 hu).1
        simp at this; omega
      rw [e] at hu hy
      simp at hu hy
      subst hu; subst hy
      exact ho.kept hg hvA
  · rw [List.getElem?_append] at hu hx
    split at hu
    · split at hx
      · exact h.sep i j u x hij hu hx
      · have : x = v := by
          have := List.mem_of_getElem? hx
          simpa using this
        subst this
        exact hap i u hu
    · have hu' : u = v := by
        have := List.mem_of_getElem? hu
        simpa using this
      subst hu'
      split at hx
      · exact (hap j x hx).symm
      · rename_i h1 h2
        have a1 := (List.getElem?_eq_some_iff.1 hu).1
        have a2 := (List.getElem?_eq_some_iff.1 hx).1
        simp at a1 a2
        omega
end
section
variable {ops : Array Oper} {rest : List Oper} {o : Oper} {a : Act} {Q : Exit → Act → World → Prop}
theorem app_int (w : World) (hgd : o.guard = none) (s x : Operand) (ho : o.op = .call { callee := .builtin .append, args := #[s, x], argTypes := #[36, 36] })
    (B : Nat) (A : Option Addr) (n c : Nat) (zs : List Int) (hs : a.eval s = .slice A n c) (hown : OI w B 2 A n c zs) (u : Int) (g : Nat) (hx : a.eval x = .slice (some ⟨g, 0, none⟩) 1 1) (hgx : g = w.heap.size)
    (hu : I64 u) (hbig : n + 1 ≤ 2199023255552) (hB : B ≤ w.heap.size)
    (h : ∀ A' c' w', OI w' B 2 A' (n + 1) c' (zs ++ [u]) → w.grownBy w' (blk A) → (blk A' = blk A ∨ ∃ k, blk A' = some k ∧ w.heap.size ≤ k) → wpList Tryz.prog ops Q rest (a.put o.dst (.slice A' (n + 1) c')) w') :
    wpList Tryz.prog ops Q (o :: rest) a (w.alloc (.cells #[.int .i64 u] 2)) :=
  wpList_app1' w hgd s x 36 ho 2 (.int .i64 0) 8 Tryz.underlying36 int_info rfl (by omega) B A n c (ints zs) hs hown.os (.int .i64 u) g hx hgx rfl hbig hB
    fun A' c' w' h1 h2 h3 => h A' c' w' (OI.snoc h1 hown.all hu) h2 h3
theorem app_row (w : World) (hgd : o.guard = none) (s x : Operand) (ho : o.op = .call { callee := .builtin .append, args := #[s, x], argTypes := #[26, 26] })
    (B : Nat) (A : Option Addr) (n c : Nat) (vs : List Sl) (zss : List (List Int)) (hs : a.eval s = .slice A n c) (hown : ORv w B 36 2 A n c vs zss) (v : Sl) (z : List Int) (hv : OI w B 2 v.1 v.2.1 v.2.2 z) (hap : ∀ (j : Nat) (u : Sl), vs[j]? = some u → apart u v)
    (g : Nat) (hx : a.eval x = .slice (some ⟨g, 0, none⟩) 1 1) (hgx : g = w.heap.size) (hbig : n + 1 ≤ 2199023255552) (hB : B ≤ w.heap.size)
    (h : ∀ A' c' w', ORv w' B 36 2 A' (n + 1) c' (vs ++ [v]) (zss ++ [z]) → w.grownBy w' (blk A) → (blk A' = blk A ∨ ∃ k, blk A' = some k ∧ w.heap.size ≤ k) → wpList Tryz.prog ops Q rest (a.put o.dst (.slice A' (n + 1) c')) w') :
    wpList Tryz.prog ops Q (o :: rest) a (w.alloc (.cells #[.slice v.1 v.2.1 v.2.2] 36)) :=
  wpList_app1' w hgd s x 26 ho 36 (.slice none 0 0) 24 Tryz.underlying26 ints_info rfl (by omega) B A n c (vs.map slv) hs hown.os (.slice v.1 v.2.1 v.2.2) g hx hgx rfl hbig hB
    fun A' c' w' h1 h2 h3 => h A' c' w' (ORv.push' hown hv hap h2 h1) h2 h3
end
end Go.Proofs.YtnmcmologlgccaaGreat
namespace Go.Proofs.YtnmcmologlgccaaGreat
noncomputable def tB (p : Prop) : Bool := @decide p (Classical.propDecidable p)
theorem tB_yes {p : Prop} (h : p) : tB p = true := by unfold tB; exact @decide_eq_true p (Classical.propDecidable p) h
theorem tB_no {p : Prop} (h : ¬ p) : tB p = false := by unfold tB; exact @decide_eq_false p (Classical.propDecidable p) h
theorem tB_true {p : Prop} : tB p = true ↔ p := by unfold tB; exact @decide_eq_true_iff p (Classical.propDecidable p)
theorem tB_congr {p q : Prop} (h : p ↔ q) : tB p = tB q := by
  by_cases hp : p
  · rw [tB_yes hp, tB_yes (h.1 hp)]
  · rw [tB_no hp, tB_no (fun hq => hp (h.2 hq))]
/-! matrices with two signs -/
def dotTo (a b : List Int) : Nat → Int
  | 0 => 0
  | k + 1 => dotTo a b k + nth a k * nth b k
def PM (a : List Int) (n : Nat) : Prop := ∀ k, k < n → nth a k = 1 ∨ nth a k = -1
theorem pm_mul {a b : List Int} {n k : Nat} (ha : PM a n) (hb : PM b n) (hk : k < n) : -1 ≤ nth a k * nth b k ∧ nth a k * nth b k ≤ 1 := by
  rcases ha k hk with h | h <;> rcases hb k hk with h' | h' <;> rw [h, h'] <;> omega
theorem dotTo_bd {a b : List Int} {n k : Nat} (ha : PM a n) (hb : PM b n) (hk : k ≤ n) : -(k : Int) ≤ dotTo a b k ∧ dotTo a b k ≤ k := by
  induction k with
  | zero => simp [dotTo]
  | succ k ih =>
    have h1 := ih (by omega)
    have h2 := pm_mul ha hb (show k < n by omega)
    simp only [dotTo]
    omega
def HadRow (h : List (List Int)) (i : Nat) : Prop := (row h i).length = h.length ∧ PM (row h i) h.length
def HadPair (h : List (List Int)) (i k : Nat) : Prop := dotTo (row h i) (row h k) h.length = 0
def Had (h : List (List Int)) : Prop := 1 ≤ h.length ∧ h.length ≤ 32 ∧ (∀ i, i < h.length → HadRow h i) ∧ ∀ i, i < h.length → ∀ k, k < i → HadPair h i k
/-! lists in order -/
def cmpL : List Int → List Int → Int
  | [], [] => 0
  | [], _ :: _ => -1
  | _ :: _, [] => 1
  | x :: xs, y :: ys => if x < y then -1 else if y < x then 1 else cmpL xs ys
theorem nth_succ (x : Int) (xs : List Int) (k : Nat) : nth (x :: xs) (k + 1) = nth xs k := by simp [nth, List.getD]
theorem nth_zero (x : Int) (xs : List Int) : nth (x :: xs) 0 = x := by simp [nth, List.getD]
def agree (xs ys : List Int) (k : Nat) : Prop := k ≤ xs.length ∧ k ≤ ys.length ∧ ∀ j, j < k → nth xs j = nth ys j
theorem agree_zero (xs ys : List Int) : agree xs ys 0 := ⟨Nat.zero_le _, Nat.zero_le _, fun _ h => absurd h (by omega)⟩
theorem agree_step {xs ys : List Int} {k : Nat} (h : agree xs ys k) (h1 : k < xs.length) (h2 : k < ys.length) (he : nth xs k = nth ys k) : agree xs ys (k + 1) :=
  ⟨h1, h2, fun j hj => by
    rcases Nat.lt_succ_iff_lt_or_eq.1 hj with h' | h'
    · exact h.2.2 j h'
    · rw [h']; exact he⟩
theorem cmpL_agree {xs ys : List Int} {k : Nat} (h : agree xs ys k) : cmpL xs ys = cmpL (xs.drop k) (ys.drop k) := by
  induction k generalizing xs ys with
  | zero => simp
  | succ k ih =>
    obtain ⟨h1, h2, h3⟩ := h
    cases xs with
    | nil => simp at h1
    | cons x xs =>
      cases ys with
      | nil => simp at h2
      | cons y ys =>
        have e := h3 0 (by omega)
        rw [nth_zero, nth_zero] at e
        subst e
        simp only [cmpL, Int.lt_irrefl, if_false, List.drop_succ_cons]
        refine ih ⟨by simpa using h1, by simpa using h2, fun j hj => ?_⟩
        have := h3 (j + 1) (by omega)
        rwa [nth_succ, nth_succ] at this
theorem cmpL_lt {xs ys : List Int} {k : Nat} (h : agree xs ys k) (h1 : k < xs.length) (h2 : k < ys.length) (he : nth xs k < nth ys k) : cmpL xs ys = -1 := by
  rw [cmpL_agree h, List.drop_eq_getElem_cons h1, List.drop_eq_getElem_cons h2, cmpL, if_pos (by rw [← nth_get h1, ← nth_get h2]; exact he)]
theorem cmpL_gt {xs ys : List Int} {k : Nat} (h : agree xs ys k) (h1 : k < xs.length) (h2 : k < ys.length) (he : nth ys k < nth xs k) : cmpL xs ys = 1 := by
  rw [cmpL_agree h, List.drop_eq_getElem_cons h1, List.drop_eq_getElem_cons h2, cmpL, if_neg (by rw [← nth_get h1, ← nth_get h2]; omega), if_pos (by rw [← nth_get h1, ← nth_get h2]; exact he)]
theorem cmpL_short {xs ys : List Int} (h : agree xs ys xs.length) (h2 : xs.length < ys.length) : cmpL xs ys = -1 := by
  rw [cmpL_agree h, List.drop_eq_getElem_cons h2, List.drop_eq_nil_of_le (Nat.le_refl _)]
  rfl
theorem cmpL_long {xs ys : List Int} (h : agree xs ys ys.length) (h2 : ys.length < xs.length) : cmpL xs ys = 1 := by
  rw [cmpL_agree h, List.drop_eq_getElem_cons h2, List.drop_eq_nil_of_le (Nat.le_refl _)]
  rfl
theorem cmpL_same {xs ys : List Int} (h : agree xs ys xs.length) (h2 : xs.length = ys.length) : cmpL xs ys = 0 := by
  rw [cmpL_agree h, List.drop_eq_nil_of_le (Nat.le_refl _), List.drop_eq_nil_of_le (by omega)]
  rfl
theorem cmpL_zero {xs ys : List Int} (h : cmpL xs ys = 0) : xs = ys := by
  induction xs generalizing ys with
  | nil => cases ys <;> simp [cmpL] at h ⊢
  | cons x xs ih =>
    cases ys with
    | nil => simp [cmpL] at h
    | cons y ys =>
      simp only [cmpL] at h
      split at h
      · simp at h
      · split at h
        · simp at h
        · rw [ih h]
          congr 1
          omega
theorem cmpL_refl (xs : List Int) : cmpL xs xs = 0 := cmpL_same ⟨Nat.le_refl _, Nat.le_refl _, fun _ _ => rfl⟩ rfl
theorem cmpL_swap (xs ys : List Int) : cmpL ys xs = -cmpL xs ys := by
  induction xs generalizing ys with
  | nil => cases ys <;> simp [cmpL]
  | cons x xs ih =>
    cases ys with
    | nil => simp [cmpL]
    | cons y ys =>
      simp only [cmpL]
      by_cases h1 : x < y
      · rw [if_neg (by omega), if_pos h1, if_pos h1]; rfl
      · by_cases h2 : y < x
        · rw [if_pos h2, if_neg h1, if_pos h2]
        · rw [if_neg h2, if_neg h1, if_neg h1, if_neg h2]; exact ih ys
theorem cmpL_trans {xs ys zs : List Int} (h1 : cmpL xs ys ≤ 0) (h2 : cmpL ys zs ≤ 0) : cmpL xs zs ≤ 0 := by
  induction xs generalizing ys zs with
  | nil => cases zs <;> simp [cmpL]
  | cons x xs ih =>
    cases ys with
    | nil => simp [cmpL] at h1
    | cons y ys =>
      cases zs with
      | nil => simp [cmpL] at h2
      | cons z zs =>
        simp only [cmpL] at h1 h2 ⊢
        split at h1
        · split at h2
          · rw [if_pos (by omega)]; omega
          · split at h2
            · omega
            · rw [if_pos (by omega)]; omega
        · split at h1
          · omega
          · split at h2
            · rw [if_pos (by omega)]; omega
            · split at h2
              · omega
              · rw [if_neg (by omega), if_neg (by omega)]
                exact ih h1 h2
/-! permutations -/
structure Perm (p : List Int) : Prop where
  bd : ∀ k, k < p.length → 0 ≤ nth p k ∧ nth p k < p.length
  ne : ∀ i j, i < j → j < p.length → nth p i ≠ nth p j
/-! sets of points, designs, arrays -/
structure Rises (z : List Int) (lo hi : Int) : Prop where
  bd : ∀ k, k < z.length → lo ≤ nth z k ∧ nth z k ≤ hi
  up : ∀ k, k + 1 < z.length → nth z k < nth z (k + 1)
def Block (z : List Int) (v : Int) : Prop := 0 < z.length ∧ Rises z 0 (v - 1)
structure Design (v : Int) (bs : List (List Int)) : Prop where
  v1 : 1 ≤ v
  v2 : v ≤ 32
  len : bs.length ≤ 128
  blk : ∀ i, i < bs.length → Block (row bs i) v
  ord : ∀ i, i + 1 < bs.length → cmpL (row bs i) (row bs (i + 1)) ≤ 0
end Go.Proofs.YtnmcmologlgccaaGreat
namespace Go.Proofs.YtnmcmologlgccaaGreat
def srt (zs : List Int) : List Int := zs.mergeSort fun x y => decide (x ≤ y)
theorem srt_perm (zs : List Int) : (srt zs).Perm zs := List.mergeSort_perm _ _
theorem srt_len (zs : List Int) : (srt zs).length = zs.length := (srt_perm zs).length_eq
theorem srt_le (zs : List Int) : (srt zs).Pairwise fun x y => x ≤ y := by
  have h := List.pairwise_mergeSort (le := fun x y : Int => decide (x ≤ y)) (fun a b c h1 h2 => by simp at *; omega) (fun a b => by simp; omega) zs
  exact h.imp fun h => by simpa using h
theorem mem_nth {zs : List Int} {x : Int} (h : x ∈ zs) : ∃ k, k < zs.length ∧ nth zs k = x := by
  obtain ⟨k, hk, rfl⟩ := List.mem_iff_getElem.1 h
  exact ⟨k, hk, nth_get hk⟩
theorem nth_mem {zs : List Int} {k : Nat} (h : k < zs.length) : nth zs k ∈ zs := by
  rw [nth_get h]
  exact List.getElem_mem h
end Go.Proofs.YtnmcmologlgccaaGreat
namespace Go.Proofs
open Go.Shelf
def Tryz.srtL_ren : Go.Shelf.Ren := ⟨fun | 5 => 175 | 8 => 62 | 7 => 198 | 19 => 106 | 20 => 107 | 10 => 209 | 11 => 210 | 12 => 211 | 13 => 212 | 14 => 213 | 15 => 214 | 16 => 215 | 17 => 216 | 18 => 217 | 30 => 220 | 31 => 157 | 32 => 158 | 33 => 221 | 34 => 222 | 35 => 108 | 40 => 223 | n => n, fun | 23 => 36 | 25 => 2 | 3 => 3 | 32 => 80 | 22 => 36 | 0 => 0 | 44 => 114 | 46 => 66 | 4 => 4 | 36 => 107 | 35 => 106 | 41 => 111 | 5 => 5 | 9 => 9 | 53 => 145 | 57 => 149 | 63 => 166 | 64 => 167 | n => n, fun | n => n⟩
theorem Tryz.srtL : Go.Proofs.SlLaysM.n5 Tryz.prog Tryz.srtL_ren := {
  mixed := by kernel_rfl
  f5 := ⟨Tryz.f175.name, by decide, Tryz.func175.trans (congrArg some (by kernel_rfl))⟩
  f7 := ⟨Tryz.f198.name, by decide, Tryz.func198.trans (congrArg some (by kernel_rfl))⟩
  f8 := Tryz.func62.trans (congrArg some (by kernel_rfl))
  f10 := ⟨Tryz.f209.name, by decide, Tryz.func209.trans (congrArg some (by kernel_rfl))⟩
  f11 := ⟨Tryz.f210.name, by decide, Tryz.func210.trans (congrArg some (by kernel_rfl))⟩
  f12 := ⟨Tryz.f211.name, by decide, Tryz.func211.trans (congrArg some (by kernel_rfl))⟩
  f13 := ⟨Tryz.f212.name, by decide, Tryz.func212.trans (congrArg some (by kernel_rfl))⟩
  f14 := ⟨Tryz.f213.name, by decide, Tryz.func213.trans (congrArg some (by kernel_rfl))⟩
  f15 := ⟨Tryz.f214.name, by decide, Tryz.func214.trans (congrArg some (by kernel_rfl))⟩
  f16 := ⟨Tryz.f215.name, by decide, Tryz.func215.trans (congrArg some (by kernel_rfl))⟩
  f17 := ⟨Tryz.f216.name, by decide, Tryz.func216.trans (congrArg some (by kernel_rfl))⟩
  f18 := ⟨Tryz.f217.name, by decide, Tryz.func217.trans (congrArg some (by kernel_rfl))⟩
  f19 := Tryz.func106.trans (congrArg some (by kernel_rfl))
  f20 := Tryz.func107.trans (congrArg some (by kernel_rfl))
  f30 := ⟨Tryz.f220.name, by decide, Tryz.func220.trans (congrArg some (by kernel_rfl))⟩
  f31 := Tryz.func157.trans (congrArg some (by kernel_rfl))
  f32 := Tryz.func158.trans (congrArg some (by kernel_rfl))
  f33 := ⟨Tryz.f221.name, by decide, Tryz.func221.trans (congrArg some (by kernel_rfl))⟩
  f34 := ⟨Tryz.f222.name, by decide, Tryz.func222.trans (congrArg some (by kernel_rfl))⟩
  f35 := ⟨Tryz.f108.name, by decide, Tryz.func108.trans (congrArg some (by kernel_rfl))⟩
  f40 := ⟨Tryz.f223.name, by decide, Tryz.func223.trans (congrArg some (by kernel_rfl))⟩
  t0 := Tryz.underlying0
  a0 := Tryz.isAgg0
  z0 := Tryz.sizeOf0
  v0 := Tryz.zeroValue0
  t3 := Tryz.underlying3
  a3 := Tryz.isAgg3
  z3 := Tryz.sizeOf3
  v3 := Tryz.zeroValue3
  t4 := Tryz.underlying4
  a4 := Tryz.isAgg4
  z4 := Tryz.sizeOf4
  v4 := Tryz.zeroValue4
  t5 := Tryz.underlying5
  a5 := Tryz.isAgg5
  z5 := Tryz.sizeOf5
  v5 := Tryz.zeroValue5
  t9 := Tryz.underlying9
  a9 := Tryz.isAgg9
  z9 := Tryz.sizeOf9
  v9 := Tryz.zeroValue9
  t22 := Tryz.underlying36
  a22 := Tryz.isAgg36
  z22 := Tryz.sizeOf36
  v22 := Tryz.zeroValue36
  t23 := Tryz.underlying36
  a23 := Tryz.isAgg36
  z23 := Tryz.sizeOf36
  v23 := Tryz.zeroValue36
  t25 := Tryz.underlying2
  a25 := Tryz.isAgg2
  z25 := Tryz.sizeOf2
  v25 := Tryz.zeroValue2
  t32 := Tryz.underlying80
  a32 := Tryz.isAgg80
  z32 := Tryz.sizeOf80
  v32 := Tryz.zeroValue80
  t35 := Tryz.underlying106
  a35 := Tryz.isAgg106
  z35 := Tryz.sizeOf106
  v35 := Tryz.zeroValue106
  t36 := Tryz.underlying107
  a36 := Tryz.isAgg107
  z36 := Tryz.sizeOf107
  v36 := Tryz.zeroValue107
  t41 := Tryz.underlying111
  a41 := Tryz.isAgg111
  z41 := Tryz.sizeOf111
  v41 := Tryz.zeroValue111
  t44 := Tryz.underlying114
  a44 := Tryz.isAgg114
  z44 := Tryz.sizeOf114
  v44 := Tryz.zeroValue114
  t46 := Tryz.underlying66
  a46 := Tryz.isAgg66
  z46 := Tryz.sizeOf66
  v46 := Tryz.zeroValue66
  t53 := Tryz.underlying145
  a53 := Tryz.isAgg145
  z53 := Tryz.sizeOf145
  v53 := Tryz.zeroValue145
  t57 := Tryz.underlying149
  a57 := Tryz.isAgg149
  z57 := Tryz.sizeOf149
  v57 := Tryz.zeroValue149
  t63 := Tryz.underlying166
  a63 := Tryz.isAgg166
  z63 := Tryz.sizeOf166
  v63 := Tryz.zeroValue166
  t64 := Tryz.underlying167
  a64 := Tryz.isAgg167
  z64 := Tryz.sizeOf167
  v64 := Tryz.zeroValue167 }
end Go.Proofs
namespace Go.Proofs.YtnmcmologlgccaaGreat
open Go.RowKit Go.Sort
theorem sort_any (B : Nat) (e : TypeId) (A : Option Addr) (n c : Nat) (zs : List Int) (w : World) (ho : OI w B e A n c zs) (hn : n ≤ 4611686018427387900) :
    Calls Tryz.prog 175 #[.slice A n c] w fun en w' => en = .returned (.tuple #[]) ∧ OI w' B e A n c (srt zs) ∧ w.grownBy w' (blk A) := by
  have hl := ho.len
  have hall : All64 (srt zs) := fun z hz => ho.all z ((srt_perm zs).mem_iff.1 hz)
  rcases ho.os.cases with ⟨rfl, rfl, rfl, hx⟩ | ⟨g, cur, rfl, hB, hg, hnc, hc, hsz, htk⟩
  · have hz : zs = [] := List.eq_nil_of_length_eq_zero hl
    subst hz
    exact (AnyM.slices_Sort_int_none Tryz.srtL none 0 w).mono fun en w' ⟨he, hw⟩ => by
      subst hw
      exact ⟨he, by rw [show srt [] = [] by simp [srt]]; exact OI.nil_ _ _ _, World.grownBy.refl _ _⟩
  · have hlt : g < w.heap.size := (Array.getElem?_eq_some_iff.1 hg).1
    subst hl
    rw [Nat.mul_one] at htk hsz
    have hH : Holds (Value.int .i64) w g 0 zs.toArray := holds_of_blockI hg htk
    exact (AnyM.slices_Sort_int Tryz.srtL g 0 c zs w hH hlt (by omega)).mono fun en w' ⟨he, nn, os, hw⟩ => by
      subst hw
      refine ⟨he, ⟨?_, hall⟩, grownBy_sortedI _⟩
      have := ownsRow_sortedI (w := w) (n := nn) (os := os) (ss := zs) (ts := srt zs) (srt_len zs) hB hg hnc hc (by rw [Nat.mul_one]; exact hsz)
      exact this
end Go.Proofs.YtnmcmologlgccaaGreat
namespace Go.Proofs.YtnmcmologlgccaaGreat
open Go.RowKit
def SomeIdx (w : World) (b : Bool) (e : Ending) (w' : World) : Prop := ∃ r : Int, e = .returned (.int .i64 r) ∧ -1 ≤ r ∧ r ≤ 9223372036854775807 ∧ decide (0 ≤ r) = b ∧ Below w.heap.size w w'
def RetB (w : World) (b : Bool) (e : Ending) (w' : World) : Prop := e = .returned (.bool b) ∧ Below w.heap.size w w'
theorem RetB.of_same {w w' : World} {b : Bool} {e : Ending} (h : e = .returned (.bool b) ∧ w = w') : RetB w b e w' := ⟨h.1, h.2 ▸ Below.refl _ _⟩
def AskI (g : Nat) (lb : Array Value) (p : Int → Bool) (w : World) : Prop :=
  ∀ (x : Int) (W : World), Below w.heap.size w W → I64 x → Calls Tryz.prog g (#[.int .i64 x] ++ lb) W (RetB W (p x))
def AskR (g : Nat) (lb : Array Value) (p : List Int → Bool) (w : World) : Prop :=
  ∀ (A : Option Addr) (n c : Nat) (z : List Int) (W : World), Below w.heap.size w W → RI W A n z → n ≤ c → c ≤ 9223372036854775807 → Calls Tryz.prog g (#[.slice A n c] ++ lb) W (RetB W (p z))
def AskIq (g : Nat) (lb : Array Value) (p : Int → Bool) (w : World) : Prop :=
  ∀ (x : Int), I64 x → Calls Tryz.prog g (#[.int .i64 x] ++ lb) w fun e w' => e = .returned (.bool (p x)) ∧ w = w'
def noneTo {α : Type} (p : α → Bool) (xs : List α) (k : Nat) : Prop := ∀ j x, j < k → xs[j]? = some x → p x = false
theorem noneTo_step {α : Type} {p : α → Bool} {xs : List α} {k : Nat} {x : α} (h : noneTo p xs k) (hx : xs[k]? = some x) (hp : p x = false) : noneTo p xs (k + 1) := fun j y hj hy => by
  rcases Nat.lt_succ_iff_lt_or_eq.1 hj with h' | h'
  · exact h j y h' hy
  · subst h'; rw [hx] at hy; injection hy with hy; rw [← hy]; exact hp
theorem noneTo_all {α : Type} {p : α → Bool} {xs : List α} (h : noneTo p xs xs.length) : xs.any p = false := by
  rw [List.any_eq_false]
  intro x hx
  obtain ⟨j, hj, rfl⟩ := List.mem_iff_getElem.1 hx
  simpa using h j _ hj (List.getElem?_eq_getElem hj)
theorem any_hit {α : Type} {p : α → Bool} {xs : List α} {k : Nat} {x : α} (hx : xs[k]? = some x) (hp : p x = true) : xs.any p = true :=
  List.any_eq_true.2 ⟨x, List.mem_of_getElem? hx, hp⟩
set_option maxHeartbeats 1000000 in
theorem indexFuncI (g : Nat) (lb : Array Value) (eg : ∀ args w, (callFunc g args).run Tryz.prog w = .ok (.enter g args) w) (p : Int → Bool) (A : Option Addr) (n c : Nat) (zs : List Int) (w : World) (ha : RI w A n zs) (hn : n ≤ 9223372036854775807) (hp : AskI g lb p w) :
    Calls Tryz.prog 219 #[.slice A n c, .func (.func g) #[] lb] w (SomeIdx w (zs.any p)) := by
  have hla := Lib.hid ha.len
  go_enter Tryz.func219, Tryz.ntmps219
  go_wp2
  go_loopw [5, 8] (fun _ i wr => ∃ k : Nat, k ≤ n ∧ i = .int .i64 k ∧ Below w.heap.size w wr ∧ noneTo p zs k) (fun _ i _ => n - (intOf i).toNat)
  case atStart => exact ⟨0, Nat.zero_le _, rfl, Below.refl _ _, fun j _ h => absurd h (by omega)⟩
  case round =>
    obtain ⟨k, hk, rfl, hb, hnone⟩ := hrel
    by_cases hlt : k < n
    · obtain ⟨a, rfl, hca, hia⟩ := (ha.keep hb).get hlt
      have hz : zs[k]? = some (nth zs k) := nth_some (by rw [hla.out]; exact hlt)
      have hcall := hp (nth zs k)
      cases hq : p (nth zs k) with
      | true =>
        rw [hq] at hcall
        have H := Lib.hid (any_hit hz hq)
        clear hnone hz hq
        go_wp2_with (go_at_fn g; refine (hcall _ hb hia).mono ?_; rintro e w1 ⟨rfl, hb1⟩)
        go_ret
        exact ⟨k, rfl, by omega, by omega, by rw [H.out]; simp, hb.trans (hb1.mono hb.size)⟩
      | false =>
        rw [hq] at hcall
        have H := Lib.hid (noneTo_step hnone hz hq)
        clear hnone hz hq
        go_wp2_with (go_at_fn g; refine (hcall _ hb hia).mono ?_; rintro e w1 ⟨rfl, hb1⟩)
        go_roundw
        case rel => exact ⟨k + 1, by omega, by go_num, hb.trans (hb1.mono hb.size), H.out⟩
        case measure => simp [intOf]; omega
    · have H := Lib.hid (show zs.any p = false from noneTo_all (by rw [hla.out]; rwa [show k = n by omega] at hnone))
      clear hnone
      go_wp2
      go_ret
      exact ⟨-1, rfl, by omega, by omega, by rw [H.out]; simp, hb⟩
set_option maxHeartbeats 400000 in
theorem containsFuncI (g : Nat) (lb : Array Value) (eg : ∀ args w, (callFunc g args).run Tryz.prog w = .ok (.enter g args) w) (p : Int → Bool) (A : Option Addr) (n c : Nat) (zs : List Int) (w : World) (ha : RI w A n zs) (hn : n ≤ 9223372036854775807) (hp : AskI g lb p w) :
    Calls Tryz.prog 206 #[.slice A n c, .func (.func g) #[] lb] w (RetB w (zs.any p)) := by
  go_enter Tryz.func206, Tryz.ntmps206
  go_wp2_with fail
  refine (indexFuncI g lb eg p A n c zs _ ha hn hp).mono ?_
  rintro e w1 ⟨r, rfl, h1, h2, h3, hb⟩
  have H := Lib.hid h3
  clear h3
  go_wp2
  go_ret
  exact ⟨by rw [← H.out]; rfl, hb⟩
set_option maxHeartbeats 1000000 in
theorem indexFuncIq (g : Nat) (lb : Array Value) (eg : ∀ args w, (callFunc g args).run Tryz.prog w = .ok (.enter g args) w) (p : Int → Bool) (A : Option Addr) (n c : Nat) (zs : List Int) (w : World) (ha : RI w A n zs) (hn : n ≤ 9223372036854775807) (hp : AskIq g lb p w) :
    Calls Tryz.prog 219 #[.slice A n c, .func (.func g) #[] lb] w fun e w' => ∃ r : Int, e = .returned (.int .i64 r) ∧ -1 ≤ r ∧ r ≤ 9223372036854775807 ∧ Hid (decide (0 ≤ r) = zs.any p) ∧ w = w' := by
  have hla := Lib.hid ha.len
  go_enter Tryz.func219, Tryz.ntmps219
  go_wp2
  go_loop [5, 8] (fun _ i => ∃ k : Nat, k ≤ n ∧ i = .int .i64 k ∧ noneTo p zs k) (fun _ i => n - (intOf i).toNat)
  case atStart => exact ⟨0, Nat.zero_le _, rfl, fun j _ h => absurd h (by omega)⟩
  case round =>
    obtain ⟨k, hk, rfl, hnone⟩ := hrel
    by_cases hlt : k < n
    · obtain ⟨a, rfl, hca, hia⟩ := ha.get hlt
      have hz : zs[k]? = some (nth zs k) := nth_some (by rw [hla.out]; exact hlt)
      have hcall := hp (nth zs k) hia
      cases hq : p (nth zs k) with
      | true =>
        rw [hq] at hcall
        have H := Lib.hid (any_hit hz hq)
        clear hnone hz hq
        go_wp2_with (go_at_fn g; refine hcall.mono ?_; rintro e w1 ⟨rfl, rfl⟩)
        go_ret
        exact ⟨k, rfl, by omega, by omega, Lib.hid (by rw [H.out]; simp), rfl⟩
      | false =>
        rw [hq] at hcall
        have H := Lib.hid (noneTo_step hnone hz hq)
        clear hnone hz hq
        go_wp2_with (go_at_fn g; refine hcall.mono ?_; rintro e w1 ⟨rfl, rfl⟩)
        go_round
        case rel => exact ⟨k + 1, by omega, by go_num, H.out⟩
        case measure => simp [intOf]; omega
    · have H := Lib.hid (show zs.any p = false from noneTo_all (by rw [hla.out]; rwa [show k = n by omega] at hnone))
      clear hnone
      go_wp2
      go_ret
      exact ⟨-1, rfl, by omega, by omega, Lib.hid (by rw [H.out]; simp), rfl⟩
set_option maxHeartbeats 400000 in
theorem containsFuncIq (g : Nat) (lb : Array Value) (eg : ∀ args w, (callFunc g args).run Tryz.prog w = .ok (.enter g args) w) (p : Int → Bool) (A : Option Addr) (n c : Nat) (zs : List Int) (w : World) (ha : RI w A n zs) (hn : n ≤ 9223372036854775807) (hp : AskIq g lb p w) :
    Calls Tryz.prog 206 #[.slice A n c, .func (.func g) #[] lb] w fun e w' => e = .returned (.bool (zs.any p)) ∧ w = w' := by
  go_enter Tryz.func206, Tryz.ntmps206
  go_wp2_with fail
  refine (indexFuncIq g lb eg p A n c zs _ ha hn hp).mono ?_
  rintro e w1 ⟨r, rfl, h1, h2, H, rfl⟩
  go_wp2
  go_ret
  exact ⟨by rw [← H.out]; rfl, rfl⟩
set_option maxHeartbeats 1000000 in
theorem indexFuncR (g : Nat) (lb : Array Value) (eg : ∀ args w, (callFunc g args).run Tryz.prog w = .ok (.enter g args) w) (p : List Int → Bool) (A : Option Addr) (n c : Nat) (zs : List (List Int)) (w : World) (ha : RR w A n zs) (hn : n ≤ 9223372036854775807) (hp : AskR g lb p w) :
    Calls Tryz.prog 109 #[.slice A n c, .func (.func g) #[] lb] w (SomeIdx w (zs.any p)) := by
  have hla := Lib.hid ha.len
  go_enter Tryz.func109, Tryz.ntmps109
  go_wp2
  go_loopw [5, 8] (fun _ i wr => ∃ k : Nat, k ≤ n ∧ i = .int .i64 k ∧ Below w.heap.size w wr ∧ noneTo p zs k) (fun _ i _ => n - (intOf i).toNat)
  case atStart => exact ⟨0, Nat.zero_le _, rfl, Below.refl _ _, fun j _ h => absurd h (by omega)⟩
  case round =>
    obtain ⟨k, hk, rfl, hb, hnone⟩ := hrel
    by_cases hlt : k < n
    · obtain ⟨a, A1, n1, c1, rfl, hca, hn1, hc1, ha1⟩ := (ha.keep hb).get hlt
      have hz : zs[k]? = some (row zs k) := by
        have h : k < zs.length := by rw [hla.out]; exact hlt
        rw [row_get h]; exact List.getElem?_eq_getElem h
      have hcall := hp A1 n1 c1 (row zs k)
      cases hq : p (row zs k) with
      | true =>
        rw [hq] at hcall
        have H := Lib.hid (any_hit hz hq)
        clear hnone hz hq
        go_wp2_with (go_at_fn g; refine (hcall _ hb ha1 hn1 hc1).mono ?_; rintro e w1 ⟨rfl, hb1⟩)
        go_ret
        exact ⟨k, rfl, by omega, by omega, by rw [H.out]; simp, hb.trans (hb1.mono hb.size)⟩
      | false =>
        rw [hq] at hcall
        have H := Lib.hid (noneTo_step hnone hz hq)
        clear hnone hz hq
        go_wp2_with (go_at_fn g; refine (hcall _ hb ha1 hn1 hc1).mono ?_; rintro e w1 ⟨rfl, hb1⟩)
        go_roundw
        case rel => exact ⟨k + 1, by omega, by go_num, hb.trans (hb1.mono hb.size), H.out⟩
        case measure => simp [intOf]; omega
    · have H := Lib.hid (show zs.any p = false from noneTo_all (by rw [hla.out]; rwa [show k = n by omega] at hnone))
      clear hnone
      go_wp2
      go_ret
      exact ⟨-1, rfl, by omega, by omega, by rw [H.out]; simp, hb⟩
set_option maxHeartbeats 400000 in
theorem containsFuncR (g : Nat) (lb : Array Value) (eg : ∀ args w, (callFunc g args).run Tryz.prog w = .ok (.enter g args) w) (p : List Int → Bool) (A : Option Addr) (n c : Nat) (zs : List (List Int)) (w : World) (ha : RR w A n zs) (hn : n ≤ 9223372036854775807) (hp : AskR g lb p w) :
    Calls Tryz.prog 64 #[.slice A n c, .func (.func g) #[] lb] w (RetB w (zs.any p)) := by
  go_enter Tryz.func64, Tryz.ntmps64
  go_wp2_with fail
  refine (indexFuncR g lb eg p A n c zs _ ha hn hp).mono ?_
  rintro e w1 ⟨r, rfl, h1, h2, h3, hb⟩
  have H := Lib.hid h3
  clear h3
  go_wp2
  go_ret
  exact ⟨by rw [← H.out]; rfl, hb⟩
end Go.Proofs.YtnmcmologlgccaaGreat
