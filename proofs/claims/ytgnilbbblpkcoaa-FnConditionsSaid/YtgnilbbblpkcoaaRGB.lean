/- Functions that compare slices of numbers, and slices of such slices: they return whether the lists are equal, and only read. No condition beyond those stated. -/
import Derived.Test.YtgnilbbblpkcoaaProg
import Derived.Test.YtgnilbbblpkcoaaRGA
import Derived.Deep.QuietTactic
import Derived.BigQuiet
set_option linter.unusedVariables false
set_option linter.unusedSimpArgs false
namespace Go.Proofs.Ytgnilbbblpkcoaa
open Go.RowKit
def Drawn (w w' : World) : Prop := ∃ q, w' = w.drewN q
theorem Drawn.refl (w : World) : Drawn w w := ⟨0, rfl⟩
theorem Drawn.trans {a b c : World} (h : Drawn a b) (k : Drawn b c) : Drawn a c := by
  obtain ⟨p, rfl⟩ := h
  obtain ⟨q, rfl⟩ := k
  exact ⟨p + q, World.drewN_drewN _ _ _⟩
theorem Drawn.more {a b : World} (h : Drawn a b) (q : Nat) : Drawn a (b.drewN q) := h.trans ⟨q, rfl⟩
theorem Drawn.below {a b : World} (h : Drawn a b) : Below a.heap.size a b := by
  obtain ⟨p, rfl⟩ := h
  exact below_drewn _ _
theorem RI.drawn {w w' : World} {A n zs} (h : RI w A n zs) (q : Drawn w w') : RI w' A n zs := h.keep q.below
theorem RR.drawn {w w' : World} {A n zs} (h : RR w A n zs) (q : Drawn w w') : RR w' A n zs := h.keep q.below
def Quiet (w : World) (v : Value) (e : Ending) (w' : World) : Prop := e = .returned v ∧ Drawn w w'
theorem Quiet.of_same {w w' : World} {v : Value} {e : Ending} (h : e = .returned v ∧ w = w') : Quiet w v e w' := ⟨h.1, h.2 ▸ Drawn.refl w⟩
theorem RI.drewN {w : World} {A n zs} (h : RI w A n zs) (q : Nat) : RI (w.drewN q) A n zs := h.keep (below_drewn w q)
theorem Quiet.call {P : Program} {f : FuncId} {args : Array Value} {w : World} {n : Nat} {v : Value} (h : Calls P f args (w.drewN n) (Quiet (w.drewN n) v)) :
    Calls P f args (w.drewN n) fun e w'' => e = .returned v ∧ ∃ m, w'' = w.drewN m := Calls.quiet_of (h.mono fun _ _ h => h)
structure Bel (W : World) where
  w : World
  h : Below W.heap.size W w
instance (W : World) : Inhabited (Bel W) := ⟨⟨W, Below.refl _ _⟩⟩
section
variable {P : Program} {W : World}
end
set_option maxHeartbeats 400000 in
theorem l00In_any (a lo hi : Int) (w : World) :
    Calls Try.prog 45 #[.int .i64 a, .int .i64 lo, .int .i64 hi] w fun e w' => e = .returned (.bool (inB a lo hi)) ∧ w = w' := by
  go_enter Try.func45, Try.ntmps45
  go_wp2
  · go_ret
    have h : lo ≤ a := by assumption
    exact ⟨by simp [inB, h], rfl⟩
  · go_ret
    have h : a < lo := by assumption
    exact ⟨by simp [inB, show ¬ lo ≤ a by omega], rfl⟩
set_option maxHeartbeats 400000 in
theorem within_any (a lo hi : Int) (w : World) :
    Calls Try.prog 37 #[.int .i64 a, .int .i64 lo, .int .i64 hi] w fun e w' => e = .returned (.bool (inB a lo hi)) ∧ w = w' := by
  go_enter Try.func37, Try.ntmps37
  go_wp2
  · go_ret
    have h : lo ≤ a := by assumption
    exact ⟨by simp [inB, h], rfl⟩
  · go_ret
    have h : a < lo := by assumption
    exact ⟨by simp [inB, show ¬ lo ≤ a by omega], rfl⟩
theorem int_info : (Try.prog.info? 2).map (fun i => (i.zero, i.size, i.bytes)) = some (some (.int .i64 0), 1, 8) := by kernel_rfl
theorem ints_info : (Try.prog.info? 32).map (fun i => (i.zero, i.size, i.bytes)) = some (some (.slice none 0 0), 1, 24) := by kernel_rfl
theorem RI.all64 {w : World} {A : Option Addr} {n : Nat} {zs : List Int} (h : RI w A n zs) : All64 zs := fun z hz => by
  obtain ⟨j, hj, rfl⟩ := List.mem_iff_getElem.1 hz
  obtain ⟨ad, ha, hc, hi⟩ := h.get (k := j) (by rw [← h.len]; exact hj)
  rwa [nth_get hj] at hi
theorem RI.news {w : World} {A : Option Addr} {n : Nat} {zs : List Int} (h : RI w A n zs) : ∀ j u, (ints zs)[j]? = some u → ∃ ad, A = some ad ∧ w.cell? (ad.add j) = some u := fun j u hu => by
  rw [ints, List.getElem?_map] at hu
  cases hz : zs[j]? with
  | none => rw [hz] at hu; simp at hu
  | some z =>
    rw [hz] at hu
    obtain ⟨ad, v, ha, hc, rfl, _⟩ := RS.at_ h j z hz
    injection hu with hu
    subst hu
    exact ⟨ad, ha, hc⟩
set_option maxHeartbeats 400000 in
theorem clone_any (A : Option Addr) (n c : Nat) (zs : List Int) (w : World) (ha : RI w A n zs) (hn : n ≤ 1099511627776) :
    Calls Try.prog 64 #[.slice A n c] w (RetI w 2 zs) := by
  have hq := fun (wx : World) => Lib.run_eql_slice_nil (P := Try.prog) wx 32 2 A n c 0 0 Try.underlying32
  cases A with
  | none =>
    have h0 : zs = [] := by
      rcases Nat.eq_zero_or_pos n with h | h
      · exact List.eq_nil_of_length_eq_zero (by rw [ha.len, h])
      · obtain ⟨ad, h', _⟩ := ha.get h
        cases h'
    subst h0
    simp only [Option.isNone_none] at hq
    go_enter Try.func64, Try.ntmps64
    go_wp2
    go_ret
    exact ⟨_, _, _, rfl, OI.nil_ _ _ _, Below.refl _ _⟩
  | some a =>
    simp only [Option.isNone_some] at hq
    have ho := OI.lit w w.heap.size 2 [] (Nat.le_refl _) (by simp) All64.nil_
    have hb := below_alloc w (.cells (ints []).toArray 2)
    have hr := ha.keep hb
    have hl := Lib.hid ha.len
    have hal := ha.all64
    clear ha
    go_enter Try.func64, Try.ntmps64
    go_wp2_with (at_builtin; refine wpList_app _ rfl _ _ 32 rfl 2 (.int .i64 0) 1 8 Try.underlying32 int_info rfl (by omega) (by omega) w.heap.size _ 0 0 (ints []) rfl ho.os _ n c (ints zs) rfl (by simp [ints, hl.out]) hr.news (ints_oneCell _) (by omega) (by simp) ?_; intro A2 c2 w2 ho2 hg2 hn2)
    have hw2 := below_own hb hg2 (by simp) (fun b hb => (ho.os.lt hb).1)
    have hi2 := OI.cat ho2 All64.nil_ hal
    clear ho hb hr ho2 hg2 hn2
    go_wp2
    go_ret
    exact ⟨A2, n, c2, by simp, by simpa using hi2, hw2⟩
set_option maxHeartbeats 400000 in
theorem l00Own_any (A : Option Addr) (n c : Nat) (zs : List Int) (w : World) (ha : RI w A n zs) (hn : n ≤ 1099511627776) :
    Calls Try.prog 95 #[.slice A n c] w (RetI w 2 zs) := by
  have ho := OI.lit w w.heap.size 2 [] (Nat.le_refl _) (by simp) All64.nil_
  have hb := below_alloc w (.cells (ints []).toArray 2)
  have hr := ha.keep hb
  have hl := Lib.hid ha.len
  have hal := ha.all64
  clear ha
  go_enter Try.func95, Try.ntmps95
  go_wp2_with (at_builtin; refine wpList_app _ rfl _ _ 32 rfl 2 (.int .i64 0) 1 8 Try.underlying32 int_info rfl (by omega) (by omega) w.heap.size _ 0 0 (ints []) rfl ho.os _ n c (ints zs) rfl (by simp [ints, hl.out]) hr.news (ints_oneCell _) (by omega) (by simp) ?_; intro A2 c2 w2 ho2 hg2 hn2)
  have hw2 := below_own hb hg2 (by simp) (fun b hb => (ho.os.lt hb).1)
  have hi2 := OI.cat ho2 All64.nil_ hal
  clear ho hb hr ho2 hg2 hn2
  go_wp2
  go_ret
  exact ⟨A2, n, c2, by simp, by simpa using hi2, hw2⟩
theorem take_row {zss : List (List Int)} {j : Nat} (h : j < zss.length) : zss.take (j + 1) = zss.take j ++ [row zss j] := by
  rw [List.take_succ_eq_append_getElem h, row_get h]
theorem OR.of_own {w : World} {B : Nat} {e2 e1 : TypeId} {A : Option Addr} {n c : Nat} (h : OS w B e2 1 A n c []) (hne : e2 ≠ e1) : OR w B e2 e1 A n c [] :=
  ⟨[], by simpa using h, rfl, fun _ _ _ h => by simp at h, fun _ _ _ _ _ h => by simp at h, hne⟩
section
variable {w w' : World} {B : Nat} {e2 e1 : TypeId} {A : Option Addr} {n c : Nat} {vs : List Sl} {zss : List (List Int)}
theorem ORv.push' (h : ORv w B e2 e1 A n c vs zss) {v : Sl} {z : List Int} (ho : OI w B e1 v.1 v.2.1 v.2.2 z) (hap : ∀ (j : Nat) (u : Sl), vs[j]? = some u → apart u v)
    {A' : Option Addr} {c' : Nat} (hg : w.grownBy w' (blk A)) (hos : OS w' B e2 1 A' (n + 1) c' (vs.map slv ++ [.slice v.1 v.2.1 v.2.2])) : ORv w' B e2 e1 A' (n + 1) c' (vs ++ [v]) (zss ++ [z]) := by
  have hvA : blk v.1 = none ∨ blk v.1 ≠ blk A := OS.typed ho.os h.os (fun e => h.ne e.symm)
  refine ⟨by simpa [slv] using hos, by simp [h.len], fun j u y hu hy => ?_, fun i j u x hij hu hx => ?_, h.ne⟩
  · rw [List.getElem?_append] at hu hy
    rw [h.len] at hu
    split at hu
    · rename_i hj
      rw [if_pos hj] at hy
      exact (h.rows j u y hu hy).kept hg (h.outer_row hu)
    · rename_i hj
      rw [if_neg hj] at hy
      have e : j - zss.length = 0 := by
        have := (List.getElem?_eq_some_iff.1 hu).1
        simp at this; omega
      rw [e] at hu hy
      simp at hu hy
      subst hu; subst hy
      exact ho.kept hg hvA
  · rw [List.getElem?_append] at hu hx
    split at hu
    · split at hx
      · exact h.sep i j u x hij hu hx
      · have : x = v := by
          have := List.mem_of_getElem? hx
          simpa using this
        subst this
        exact hap i u hu
    · have hu' : u = v := by
        have := List.mem_of_getElem? hu
        simpa using this
      subst hu'
      split at hx
      · exact (hap j x hx).symm
      · rename_i h1 h2
        have a1 := (List.getElem?_eq_some_iff.1 hu).1
        have a2 := (List.getElem?_eq_some_iff.1 hx).1
        simp at a1 a2
        omega
end
section
variable {ops : Array Oper} {rest : List Oper} {o : Oper} {a : Act} {Q : Exit → Act → World → Prop}
theorem app_int (w : World) (hgd : o.guard = none) (s x : Operand) (ho : o.op = .call { callee := .builtin .append, args := #[s, x], argTypes := #[32, 32] })
    (B : Nat) (A : Option Addr) (n c : Nat) (zs : List Int) (hs : a.eval s = .slice A n c) (hown : OI w B 2 A n c zs) (u : Int) (g : Nat) (hx : a.eval x = .slice (some ⟨g, 0, none⟩) 1 1) (hgx : g = w.heap.size)
    (hu : I64 u) (hbig : n + 1 ≤ 2199023255552) (hB : B ≤ w.heap.size)
    (h : ∀ A' c' w', OI w' B 2 A' (n + 1) c' (zs ++ [u]) → w.grownBy w' (blk A) → (blk A' = blk A ∨ ∃ k, blk A' = some k ∧ w.heap.size ≤ k) → wpList Try.prog ops Q rest (a.put o.dst (.slice A' (n + 1) c')) w') :
    wpList Try.prog ops Q (o :: rest) a (w.alloc (.cells #[.int .i64 u] 2)) :=
  wpList_app1' w hgd s x 32 ho 2 (.int .i64 0) 8 Try.underlying32 int_info rfl (by omega) B A n c (ints zs) hs hown.os (.int .i64 u) g hx hgx rfl hbig hB
    fun A' c' w' h1 h2 h3 => h A' c' w' (OI.snoc h1 hown.all hu) h2 h3
theorem app_ints (w : World) (hgd : o.guard = none) (s x : Operand) (ho : o.op = .call { callee := .builtin .append, args := #[s, x], argTypes := #[32, 32] })
    (B : Nat) (A : Option Addr) (n c : Nat) (zs : List Int) (hs : a.eval s = .slice A n c) (hown : OI w B 2 A n c zs) (A2 : Option Addr) (m c2 : Nat) (ys : List Int) (hx : a.eval x = .slice A2 m c2) (hr : RI w A2 m ys)
    (hbig : n + m ≤ 2199023255552) (hB : B ≤ w.heap.size)
    (h : ∀ A' c' w', OI w' B 2 A' (n + m) c' (zs ++ ys) → w.grownBy w' (blk A) → (blk A' = blk A ∨ blk A' = some w.heap.size) → wpList Try.prog ops Q rest (a.put o.dst (.slice A' (n + m) c')) w') :
    wpList Try.prog ops Q (o :: rest) a w :=
  wpList_app w hgd s x 32 ho 2 (.int .i64 0) 1 8 Try.underlying32 int_info rfl (by omega) (by omega) B A n c (ints zs) hs hown.os A2 m c2 (ints ys) hx (by have := hr.len; simp [ints, this]) hr.news (ints_oneCell ys) hbig hB
    fun A' c' w' h1 h2 h3 => h A' c' w' (OI.cat h1 hown.all hr.all64) h2 h3
theorem app_row (w : World) (hgd : o.guard = none) (s x : Operand) (ho : o.op = .call { callee := .builtin .append, args := #[s, x], argTypes := #[24, 24] })
    (B : Nat) (A : Option Addr) (n c : Nat) (vs : List Sl) (zss : List (List Int)) (hs : a.eval s = .slice A n c) (hown : ORv w B 32 2 A n c vs zss) (v : Sl) (z : List Int) (hv : OI w B 2 v.1 v.2.1 v.2.2 z) (hap : ∀ (j : Nat) (u : Sl), vs[j]? = some u → apart u v)
    (g : Nat) (hx : a.eval x = .slice (some ⟨g, 0, none⟩) 1 1) (hgx : g = w.heap.size) (hbig : n + 1 ≤ 2199023255552) (hB : B ≤ w.heap.size)
    (h : ∀ A' c' w', ORv w' B 32 2 A' (n + 1) c' (vs ++ [v]) (zss ++ [z]) → w.grownBy w' (blk A) → (blk A' = blk A ∨ ∃ k, blk A' = some k ∧ w.heap.size ≤ k) → wpList Try.prog ops Q rest (a.put o.dst (.slice A' (n + 1) c')) w') :
    wpList Try.prog ops Q (o :: rest) a (w.alloc (.cells #[.slice v.1 v.2.1 v.2.2] 32)) :=
  wpList_app1' w hgd s x 24 ho 32 (.slice none 0 0) 24 Try.underlying24 ints_info rfl (by omega) B A n c (vs.map slv) hs hown.os (.slice v.1 v.2.1 v.2.2) g hx hgx rfl hbig hB
    fun A' c' w' h1 h2 h3 => h A' c' w' (ORv.push' hown hv hap h2 h1) h2 h3
end
end Go.Proofs.Ytgnilbbblpkcoaa
