/- Copies of lists, on both sides: memory of the call's own that reads the same. No condition beyond those stated. -/
import Derived.Test.YtncknfhfkmmhbaaGreatZAE
import Derived.Maps.OwnOps
import Derived.Maps.Views
import Derived.Laws.BytesArg
import Derived.DeepKeys5
set_option linter.unusedVariables false
set_option linter.unusedSimpArgs false
namespace Go.Proofs.YtncknfhfkmmhbaaGreat
open Go.RowKit

theorem RI.all64 {w : World} {A : Option Addr} {n : Nat} {zs : List Int} (h : RI w A n zs) : All64 zs := fun z hz => by
  obtain ⟨j, hj, rfl⟩ := List.mem_iff_getElem.1 hz
  obtain ⟨ad, ha, hc, hi⟩ := h.get (k := j) (by rw [← h.len]; exact hj)
  rwa [nth_get hj] at hi
theorem RI.news {w : World} {A : Option Addr} {n : Nat} {zs : List Int} (h : RI w A n zs) : ∀ j u, (ints zs)[j]? = some u → ∃ ad, A = some ad ∧ w.cell? (ad.add j) = some u := fun j u hu => by
  rw [ints, List.getElem?_map] at hu
  cases hz : zs[j]? with
  | none => rw [hz] at hu; simp at hu
  | some z =>
    rw [hz] at hu
    obtain ⟨ad, v, ha, hc, rfl, _⟩ := RS.at_ h j z hz
    injection hu with hu
    subst hu
    exact ⟨ad, ha, hc⟩

set_option maxHeartbeats 400000 in
theorem sizeI_any (A : Option Addr) (n c : Nat) (w : World) (_ : n ≤ 9223372036854775807) : Calls Tryz.prog 32 #[.slice A n c] w fun e w' => e = .returned (.int .i64 n) ∧ w = w' := by
  go_enter Tryz.func32, Tryz.ntmps32
  go_wp2
  go_ret
  exact ⟨rfl, rfl⟩

set_option maxHeartbeats 400000 in
theorem clone_any (A : Option Addr) (n c : Nat) (zs : List Int) (w : World) (ha : RI w A n zs) (hn : n ≤ 1099511627776) :
    Calls Tryz.prog 41 #[.slice A n c] w (RetI w 2 zs) := by
  have hq := fun (wx : World) => Lib.run_eql_slice_nil (P := Tryz.prog) wx 33 2 A n c 0 0 Tryz.underlying33
  cases A with
  | none =>
    have h0 : zs = [] := by
      rcases Nat.eq_zero_or_pos n with h | h
      · exact List.eq_nil_of_length_eq_zero (by rw [ha.len, h])
      · obtain ⟨ad, h', _⟩ := ha.get h
        cases h'
    subst h0
    simp only [Option.isNone_none] at hq
    go_enter Tryz.func41, Tryz.ntmps41
    go_wp2
    go_ret
    exact ⟨_, _, _, rfl, OI.nil_ _ _ _, Below.refl _ _⟩
  | some a =>
    simp only [Option.isNone_some] at hq
    have ho := OI.lit w w.heap.size 2 [] (Nat.le_refl _) (by simp) All64.nil_
    have hb := below_alloc w (.cells (ints []).toArray 2)
    have hr := ha.keep hb
    have hl := Lib.hid ha.len
    have hal := ha.all64
    clear ha
    go_enter Tryz.func41, Tryz.ntmps41
    go_wp2_with (at_builtin; refine wpList_app _ rfl _ _ 33 rfl 2 (.int .i64 0) 1 8 Tryz.underlying33 int_info rfl (by omega) (by omega) w.heap.size _ 0 0 (ints []) rfl ho.os _ n c (ints zs) rfl (by simp [ints, hl.out]) hr.news (ints_oneCell _) (by omega) (by simp) ?_; intro A2 c2 w2 ho2 hg2 hn2)
    have hw2 := below_own hb hg2 (by simp) (fun b hb => (ho.os.lt hb).1)
    have hi2 := OI.cat ho2 All64.nil_ hal
    clear ho hb hr ho2 hg2 hn2
    go_wp2
    go_ret
    exact ⟨A2, n, c2, by simp, by simpa using hi2, hw2⟩
theorem row_le_cells (zss : List (List Int)) {j : Nat} (h : j < zss.length) : (row zss j).length ≤ cells zss := by
  have h1 := cells_take zss h
  have h2 := cells_le zss (j + 1)
  omega
theorem take_row {zss : List (List Int)} {j : Nat} (h : j < zss.length) : zss.take (j + 1) = zss.take j ++ [row zss j] := by
  rw [List.take_succ_eq_append_getElem h, row_get h]
theorem OR.of_own {w : World} {B : Nat} {e2 e1 : TypeId} {A : Option Addr} {n c : Nat} (h : OS w B e2 1 A n c []) (hne : e2 ≠ e1) : OR w B e2 e1 A n c [] :=
  ⟨[], by simpa using h, rfl, fun _ _ _ h => by simp at h, fun _ _ _ _ _ h => by simp at h, hne⟩

set_option maxHeartbeats 1000000 in
theorem copyLists_any (A : Option Addr) (n c : Nat) (zss : List (List Int)) (w : World) (ha : RR w A n zss) (hn : n ≤ 1099511627776) (hr : cells zss ≤ 1099511627776) :
    Calls Tryz.prog 23 #[.slice A n c] w (RetR w 33 2 zss) := by
  have hla := Lib.hid ha.len
  have HR := Lib.hid (show ∀ k, k < n → (row zss k).length ≤ 1099511627776 from fun k hk => Nat.le_trans (row_le_cells zss (by rw [hla.out]; exact hk)) hr)
  go_enter Tryz.func23, Tryz.ntmps23
  go_wp2
  go_loopw [3, 8] (fun v i wr => ∃ (j : Nat) (A' : Option Addr) (c' : Nat), i = .int .i64 j ∧ j ≤ n ∧ v = .slice A' j c' ∧ OR wr w.heap.size 33 2 A' j c' (zss.take j) ∧ Below w.heap.size w wr) (fun _ i _ => n - (intOf i).toNat)
  case atStart => exact ⟨0, none, 0, rfl, Nat.zero_le _, rfl, OR.nil_ _ _ (by decide), Below.refl _ _⟩
  case round =>
    obtain ⟨j, A', c', rfl, hj, rfl, ho, hw⟩ := hrel
    by_cases hlt : j < n
    · obtain ⟨a, A1, n1, c1, rfl, hcs, hn1, hc1, hrs⟩ := (ha.keep hw).get hlt
      have hl1 : n1 ≤ 1099511627776 := by have := HR.out j hlt; rw [hrs.len] at this; exact this
      go_wp2_with fail
      refine (clone_any A1 n1 c1 (row zss j) _ hrs hl1).mono ?_
      rintro e w1 ⟨A2, n2, c2, rfl, ho2, hb2⟩
      have hw1 := hw.trans (hb2.mono hw.size)
      obtain ⟨vs, hov⟩ := ho
      have hap := hov.apart_new (v := (A2, n2, c2)) (fun b hb => (ho2.os.lt hb).1)
      have ho1 := hov.below hb2
      have hr2 := ho2.more hw.size
      clear hov hw ho2 hb2 hcs hrs
      go_wp2_with (at_builtin; refine wpList_app1 _ rfl _ _ 46 rfl 33 (.slice none 0 0) 24 Tryz.underlying46 ints_info rfl (by omega) w.heap.size A' j c' (vs.map slv) rfl ho1.os (.slice A2 n2 c2) rfl rfl (by omega) hw1.size ?_; intro A3 c3 w3 ho3 hg3 hn3)
      have hw3 := below_own hw1 hg3 hw1.size (fun b hb => (ho1.os.lt hb).1)
      have hi3 := ho1.push (v := (A2, n2, c2)) hr2 hap hg3 ho3
      rw [← take_row (by rw [hla.out]; exact hlt)] at hi3
      clear ho1 hr2 hap ho3 hg3 hn3 hw1
      go_wp2
      go_roundw
      case rel => exact ⟨j + 1, A3, c3, by go_num, by omega, rfl, hi3, hw3⟩
      case measure => simp [intOf]; omega
    · obtain rfl : j = n := by omega
      have ho' : OR wr w.heap.size 33 2 A' j c' zss := by rw [← hla.out] at ho; rw [List.take_length] at ho; rw [hla.out] at ho; exact ho
      clear ho
      go_wp2
      go_ret
      exact ⟨_, _, _, rfl, ho', hw⟩

end Go.Proofs.YtncknfhfkmmhbaaGreat
/- Appending to memory of a call's own, for this program's slices of numbers and of such slices. No condition beyond those stated. -/
namespace Go.Proofs.YtncknfhfkmmhbaaGreat
open Go.RowKit

section
variable {w w' : World} {B : Nat} {e2 e1 : TypeId} {A : Option Addr} {n c : Nat} {vs : List Sl} {zss : List (List Int)}
/-- a further row, in a block of its own, behind the append's law -/
theorem ORv.push' (h : ORv w B e2 e1 A n c vs zss) {v : Sl} {z : List Int} (ho : OI w B e1 v.1 v.2.1 v.2.2 z) (hap : ∀ (j : Nat) (u : Sl), vs[j]? = some u → apart u v)
    {A' : Option Addr} {c' : Nat} (hg : w.grownBy w' (blk A)) (hos : OS w' B e2 1 A' (n + 1) c' (vs.map slv ++ [.slice v.1 v.2.1 v.2.2])) : ORv w' B e2 e1 A' (n + 1) c' (vs ++ [v]) (zss ++ [z]) := by
  have hvA : blk v.1 = none ∨ blk v.1 ≠ blk A := OS.typed ho.os h.os (fun e => h.ne e.symm)
  refine ⟨by simpa [slv] using hos, by simp [h.len], fun j u y hu hy => ?_, fun i j u x hij hu hx => ?_, h.ne⟩
  · rw [List.getElem?_append] at hu hy
    rw [h.len] at hu
    split at hu
    · rename_i hj
      rw [if_pos hj] at hy
      exact (h.rows j u y hu hy).kept hg (h.outer_row hu)
    · rename_i hj
      rw [if_neg hj] at hy
      have e : j - zss.length = 0 := by
        have := (List.getElem?_eq_some_iff.1 hu).1
        simp at this; omega
      rw [e] at hu hy
      simp at hu hy
      subst hu; subst hy
      exact ho.kept hg hvA
  · rw [List.getElem?_append] at hu hx
    split at hu
    · split at hx
      · exact h.sep i j u x hij hu hx
      · have : x = v := by
          have := List.mem_of_getElem? hx
          simpa using this
        subst this
        exact hap i u hu
    · have hu' : u = v := by
        have := List.mem_of_getElem? hu
        simpa using this
      subst hu'
      split at hx
      · exact (hap j x hx).symm
      · rename_i h1 h2
        have a1 := (List.getElem?_eq_some_iff.1 hu).1
        have a2 := (List.getElem?_eq_some_iff.1 hx).1
        simp at a1 a2
        omega
end
section
variable {ops : Array Oper} {rest : List Oper} {o : Oper} {a : Act} {Q : Exit → Act → World → Prop}
/-- one number more -/
theorem app_int (w : World) (hgd : o.guard = none) (s x : Operand) (ho : o.op = .call { callee := .builtin .append, args := #[s, x], argTypes := #[33, 33] })
    (B : Nat) (A : Option Addr) (n c : Nat) (zs : List Int) (hs : a.eval s = .slice A n c) (hown : OI w B 2 A n c zs) (u : Int) (g : Nat) (hx : a.eval x = .slice (some ⟨g, 0, none⟩) 1 1) (hgx : g = w.heap.size)
    (hu : I64 u) (hbig : n + 1 ≤ 2199023255552) (hB : B ≤ w.heap.size)
    (h : ∀ A' c' w', OI w' B 2 A' (n + 1) c' (zs ++ [u]) → w.grownBy w' (blk A) → (blk A' = blk A ∨ ∃ k, blk A' = some k ∧ w.heap.size ≤ k) → wpList Tryz.prog ops Q rest (a.put o.dst (.slice A' (n + 1) c')) w') :
    wpList Tryz.prog ops Q (o :: rest) a (w.alloc (.cells #[.int .i64 u] 2)) :=
  wpList_app1' w hgd s x 33 ho 2 (.int .i64 0) 8 Tryz.underlying33 int_info rfl (by omega) B A n c (ints zs) hs hown.os (.int .i64 u) g hx hgx rfl hbig hB
    fun A' c' w' h1 h2 h3 => h A' c' w' (OI.snoc h1 hown.all hu) h2 h3
/-- the numbers of another slice -/
theorem app_ints (w : World) (hgd : o.guard = none) (s x : Operand) (ho : o.op = .call { callee := .builtin .append, args := #[s, x], argTypes := #[33, 33] })
    (B : Nat) (A : Option Addr) (n c : Nat) (zs : List Int) (hs : a.eval s = .slice A n c) (hown : OI w B 2 A n c zs) (A2 : Option Addr) (m c2 : Nat) (ys : List Int) (hx : a.eval x = .slice A2 m c2) (hr : RI w A2 m ys)
    (hbig : n + m ≤ 2199023255552) (hB : B ≤ w.heap.size)
    (h : ∀ A' c' w', OI w' B 2 A' (n + m) c' (zs ++ ys) → w.grownBy w' (blk A) → (blk A' = blk A ∨ blk A' = some w.heap.size) → wpList Tryz.prog ops Q rest (a.put o.dst (.slice A' (n + m) c')) w') :
    wpList Tryz.prog ops Q (o :: rest) a w :=
  wpList_app w hgd s x 33 ho 2 (.int .i64 0) 1 8 Tryz.underlying33 int_info rfl (by omega) (by omega) B A n c (ints zs) hs hown.os A2 m c2 (ints ys) hx (by have := hr.len; simp [ints, this]) hr.news (ints_oneCell ys) hbig hB
    fun A' c' w' h1 h2 h3 => h A' c' w' (OI.cat h1 hown.all hr.all64) h2 h3
/-- one row more: the row's block lies apart from all others -/
theorem app_row (w : World) (hgd : o.guard = none) (s x : Operand) (ho : o.op = .call { callee := .builtin .append, args := #[s, x], argTypes := #[46, 46] })
    (B : Nat) (A : Option Addr) (n c : Nat) (vs : List Sl) (zss : List (List Int)) (hs : a.eval s = .slice A n c) (hown : ORv w B 33 2 A n c vs zss) (v : Sl) (z : List Int) (hv : OI w B 2 v.1 v.2.1 v.2.2 z) (hap : ∀ (j : Nat) (u : Sl), vs[j]? = some u → apart u v)
    (g : Nat) (hx : a.eval x = .slice (some ⟨g, 0, none⟩) 1 1) (hgx : g = w.heap.size) (hbig : n + 1 ≤ 2199023255552) (hB : B ≤ w.heap.size)
    (h : ∀ A' c' w', ORv w' B 33 2 A' (n + 1) c' (vs ++ [v]) (zss ++ [z]) → w.grownBy w' (blk A) → (blk A' = blk A ∨ ∃ k, blk A' = some k ∧ w.heap.size ≤ k) → wpList Tryz.prog ops Q rest (a.put o.dst (.slice A' (n + 1) c')) w') :
    wpList Tryz.prog ops Q (o :: rest) a (w.alloc (.cells #[.slice v.1 v.2.1 v.2.2] 33)) :=
  wpList_app1' w hgd s x 46 ho 33 (.slice none 0 0) 24 Tryz.underlying46 ints_info rfl (by omega) B A n c (vs.map slv) hs hown.os (.slice v.1 v.2.1 v.2.2) g hx hgx rfl hbig hB
    fun A' c' w' h1 h2 h3 => h A' c' w' (ORv.push' hown hv hap h2 h1) h2 h3
end
end Go.Proofs.YtncknfhfkmmhbaaGreat
/- A set of pairs of small numbers, kept as a map of one's own: map[[2]int64]bool. No condition beyond those stated. -/
namespace Go.Proofs.YtncknfhfkmmhbaaGreat
open Go.RowKit Go.Maps

/-- a pair as an array of two -/
def pV (p : Nat × Nat) : Value := .agg #[.int .i64 (p.1 : Int), .int .i64 (p.2 : Int)]
def Sml (p : Nat × Nat) : Prop := p.1 < 8 ∧ p.2 < 8
theorem laidP : laidOutB Tryz.prog = true := by kernel_rfl
theorem pair_keyed : Keyed Tryz.prog 74 := Keyed.of_law (deep_law_gate laidP (of_decide_eq_true (by kernel_rfl)) (of_decide_eq_true (by kernel_rfl)) (by kernel_rfl) (by kernel_rfl))
theorem pair_keys : ((List.range 8).all fun a => (List.range 8).all fun b => (keyOf Tryz.prog 74 (pV (a, b))).isSome) = true := by kernel_rfl
theorem pair_key {p : Nat × Nat} (h : Sml p) : ∃ l, keyOf Tryz.prog 74 (pV p) = some l := by
  have h1 := List.all_eq_true.1 (List.all_eq_true.1 pair_keys p.1 (List.mem_range.2 h.1)) p.2 (List.mem_range.2 h.2)
  exact Option.isSome_iff_exists.1 h1
theorem pV_inj {p q : Nat × Nat} (h : pV p = pV q) : p = q := by
  obtain ⟨a, b⟩ := p
  obtain ⟨c, d⟩ := q
  unfold pV at h
  injection h with h
  have h1 := congrArg (fun x : Array Value => x[0]?) h
  have h2 := congrArg (fun x : Array Value => x[1]?) h
  simp at h1 h2
  rw [Prod.mk.injEq]
  exact ⟨by omega, by omega⟩
def SeenP (w : World) (b m : Nat) (S : List (Nat × Nat)) : Prop := ∃ D : DataW Unit, w.ownsMap Tryz.prog 74 (plainElem Tryz.prog 4) b m D ∧ ∀ (p : Nat × Nat) (l : Lit), Sml p → keyOf Tryz.prog 74 (pV p) = some l → D.atKey l (.lit (.bool false)) = .lit (.bool (decide (p ∈ S)))
theorem zero_boolP (w : World) : (zeroValue 4).run Tryz.prog w = .ok (.bool false) w := by kernel_rfl
theorem plainBool_inv {P : Program} {e : TypeId} (he : P.underlying e = some .bool) {v : Value} {z : DataW Unit × List MemPlace} (h : plainElem P e v = some z) : ∃ x, v = .bool x ∧ z = (.lit (.bool x), []) := by
  unfold plainElem at h
  rw [he] at h
  cases v <;> simp at h
  subst h
  exact ⟨_, rfl, rfl⟩
theorem SeenP.made (w : World) : SeenP (w.alloc (.map #[] 0)) w.heap.size 0 [] := by
  refine ⟨_, World.ownsMap_made w _ _ _, fun p l _ _ => ?_⟩
  rfl
theorem SeenP.kept {w w' : World} {b m : Nat} {S : List (Nat × Nat)} {row : Option Nat} (h : SeenP w b m S) (hg : w.grownBy w' row) (hne : some b ≠ row) : SeenP w' b m S := by
  obtain ⟨D, h1, h2⟩ := h
  exact ⟨D, h1.kept hg hne, h2⟩
theorem SeenP.below {w w' : World} {b m : Nat} {S : List (Nat × Nat)} (h : SeenP w b m S) (hb : Below w.heap.size w w') : SeenP w' b m S := h.kept (grownBy_of_below hb none) (by simp)
theorem SeenP.lt {w : World} {b m : Nat} {S : List (Nat × Nat)} (h : SeenP w b m S) : b < w.heap.size := by
  obtain ⟨D, h1, _⟩ := h
  exact h1.lt
section
variable {ops : Array Oper} {rest : List Oper} {o : Oper} {a : Act} {Q : Exit → Act → World → Prop}
set_option maxRecDepth 100000 in
theorem wpList_seenP (w : World) (hg : o.guard = none) (m x : Operand) (hop : o.op = Op.lookup 73 m x false) (b k : Nat) (S : List (Nat × Nat)) (hm : a.eval m = .map (some b)) (hown : SeenP w b k S) (s : Nat × Nat) (hs : Sml s) (hx : a.eval x = pV s)
    (hK : wpList Tryz.prog ops Q rest (a.put o.dst (.bool (decide (s ∈ S)))) w) : wpList Tryz.prog ops Q (o :: rest) a w := by
  obtain ⟨D, h1, h2⟩ := hown
  obtain ⟨l, hl⟩ := pair_key hs
  refine wpList_plain hg fun K' hK' => ?_
  obtain ⟨v, ps, hrun, hv⟩ := h1.lookup pair_keyed Tryz.underlying73 (zero_boolP w) (plainElem_bool Tryz.underlying4 false) hl
  obtain ⟨c, rfl, hc⟩ := plainBool_inv Tryz.underlying4 hv
  simp only [Prod.mk.injEq] at hc
  rw [h2 s l hs hl] at hc
  have e : decide (s ∈ S) = c := by
    have := hc.1
    simpa using this
  subst e
  clear hc hv h2 hl
  generalize decide (s ∈ S) = c at *
  generalize pV s = kv at *
  unfold Oper.wp
  simp [execOp, hop, hm, hx, hrun, Result.andThen]
  exact hK' _ _ hK
theorem SeenP.update {w : World} {b k : Nat} {S : List (Nat × Nat)} (h : SeenP w b k S) (hk : k < maxLen) {s : Nat × Nat} (hs : Sml s) :
    ∃ w', (Instr.mapUpdate 73 (.map (some b)) (pV s) (.bool true)).run Tryz.prog w = .ok () w' ∧ SeenP w' b (k + 1) (s :: S) ∧ w.grownBy w' (some b) := by
  obtain ⟨D, h1, h2⟩ := h
  obtain ⟨l, hl⟩ := pair_key hs
  obtain ⟨w', hrun, r1, r2⟩ := h1.update pair_keyed Tryz.underlying73 hk hl (plainElem_bool Tryz.underlying4 true)
  refine ⟨w', hrun, ⟨_, r1, fun t lt ht hlt => ?_⟩, r2⟩
  have hm : IsMap D := by
    obtain ⟨es, clock, hb, F, _, rfl⟩ := h1
    exact ⟨_, rfl⟩
  by_cases e : t = s
  · subst e
    have hk1 := pair_keyed.key hl
    have he : lt = l := Option.some.inj (hlt.symm.trans hl)
    clear hlt hl
    rw [he, decide_eq_true List.mem_cons_self]
    exact atKey_put_same hm hk1 _ _
  · have hne : lt ≠ l := fun e' => e (pV_inj (pair_keyed.inj hlt (e' ▸ hl)))
    rw [atKey_put_other hne, h2 t lt ht hlt]
    have : decide (t ∈ s :: S) = decide (t ∈ S) := by
      rw [Bool.eq_iff_iff]
      simp [e]
    rw [this]
theorem wpList_seeP (w : World) (hg : o.guard = none) (m x v : Operand) (hop : o.op = Op.mapUpdate 73 m x v ∨ o.op = Op.insert 73 m x v) (b k : Nat) (S : List (Nat × Nat)) (hm : a.eval m = .map (some b)) (hown : SeenP w b k S) (hk : k < maxLen) (s : Nat × Nat) (hs : Sml s) (hx : a.eval x = pV s) (hv : a.eval v = .bool true)
    (hK : ∀ w', SeenP w' b (k + 1) (s :: S) → w.grownBy w' (some b) → wpList Tryz.prog ops Q rest (a.put o.dst undef) w') : wpList Tryz.prog ops Q (o :: rest) a w := by
  refine wpList_plain hg fun K' hK' => ?_
  obtain ⟨w', hrun, r1, r2⟩ := hown.update hk hs
  generalize pV s = kv at *
  unfold Oper.wp
  rcases hop with hop | hop
  · simp [execOp, hop, hm, hx, hv, hrun, Result.andThen]
    exact hK' _ _ (hK w' r1 r2)
  · simp [execOp, hop, hm, hx, hv, hrun, Result.andThen]
    exact hK' _ _ (hK w' r1 r2)
end
end Go.Proofs.YtncknfhfkmmhbaaGreat
