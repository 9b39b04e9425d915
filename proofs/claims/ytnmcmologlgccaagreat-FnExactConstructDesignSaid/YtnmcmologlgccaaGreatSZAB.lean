/- Functions that compare slices of numbers, and slices of such slices: they return whether the lists are equal, and only read. No condition beyond those stated. -/
import Derived.Test.YtnmcmologlgccaaGreatProg
import Derived.Test.YtnmcmologlgccaaGreatSZAA
import Derived.Deep.QuietTactic
import Derived.BigQuiet
set_option linter.unusedVariables false
set_option linter.unusedSimpArgs false
namespace Go.Proofs.YtnmcmologlgccaaGreat
open Go.RowKit
def Drawn (w w' : World) : Prop := ∃ q, w' = w.drewN q
theorem Drawn.refl (w : World) : Drawn w w := ⟨0, rfl⟩
theorem Drawn.trans {a b c : World} (h : Drawn a b) (k : Drawn b c) : Drawn a c := by
  obtain ⟨p, rfl⟩ := h
  obtain ⟨q, rfl⟩ := k
  exact ⟨p + q, World.drewN_drewN _ _ _⟩
theorem Drawn.more {a b : World} (h : Drawn a b) (q : Nat) : Drawn a (b.drewN q) := h.trans ⟨q, rfl⟩
theorem Drawn.below {a b : World} (h : Drawn a b) : Below a.heap.size a b := by
  obtain ⟨p, rfl⟩ := h
  exact below_drewn _ _
theorem RI.drawn {w w' : World} {A n zs} (h : RI w A n zs) (q : Drawn w w') : RI w' A n zs := h.keep q.below
theorem RR.drawn {w w' : World} {A n zs} (h : RR w A n zs) (q : Drawn w w') : RR w' A n zs := h.keep q.below
def Quiet (w : World) (v : Value) (e : Ending) (w' : World) : Prop := e = .returned v ∧ Drawn w w'
theorem Quiet.of_same {w w' : World} {v : Value} {e : Ending} (h : e = .returned v ∧ w = w') : Quiet w v e w' := ⟨h.1, h.2 ▸ Drawn.refl w⟩
theorem RI.drewN {w : World} {A n zs} (h : RI w A n zs) (q : Nat) : RI (w.drewN q) A n zs := h.keep (below_drewn w q)
theorem Quiet.call {P : Program} {f : FuncId} {args : Array Value} {w : World} {n : Nat} {v : Value} (h : Calls P f args (w.drewN n) (Quiet (w.drewN n) v)) :
    Calls P f args (w.drewN n) fun e w'' => e = .returned v ∧ ∃ m, w'' = w.drewN m := Calls.quiet_of (h.mono fun _ _ h => h)
def upTo (xs ys : List Int) (k : Nat) : Prop := ∀ j, j < k → nth xs j = nth ys j
theorem upTo_all {xs ys : List Int} (h : xs.length = ys.length) (k : upTo xs ys xs.length) : xs = ys := by
  apply List.ext_getElem h
  intro i h1 h2
  have := k i h1
  rwa [nth_get h1, nth_get h2] at this
theorem upTo_step {xs ys : List Int} {k : Nat} (h : upTo xs ys k) (he : nth xs k = nth ys k) : upTo xs ys (k + 1) := fun j hj => by
  rcases Nat.lt_succ_iff_lt_or_eq.1 hj with h' | h'
  · exact h j h'
  · rw [h']; exact he
def upToR (xs ys : List (List Int)) (k : Nat) : Prop := ∀ j, j < k → row xs j = row ys j
theorem upToR_all {xs ys : List (List Int)} (h : xs.length = ys.length) (k : upToR xs ys xs.length) : xs = ys := by
  apply List.ext_getElem h
  intro i h1 h2
  have := k i h1
  rwa [row_get h1, row_get h2] at this
theorem upToR_step {xs ys : List (List Int)} {k : Nat} (h : upToR xs ys k) (he : row xs k = row ys k) : upToR xs ys (k + 1) := fun j hj => by
  rcases Nat.lt_succ_iff_lt_or_eq.1 hj with h' | h'
  · exact h j h'
  · rw [h']; exact he
set_option maxHeartbeats 400000 in
theorem eqInt64S_any (A B : Option Addr) (n m c d : Nat) (xs ys : List Int) (w : World) (ha : RI w A n xs) (hb : RI w B m ys) (hn : n ≤ 9223372036854775807) (hm : m ≤ 9223372036854775807) :
    Calls Tryz.prog 54 #[.slice A n c, .slice B m d] w (Quiet w (.bool (decide (xs = ys)))) := by
  have hla := Lib.hid ha.len
  have hlb := Lib.hid hb.len
  by_cases h : n = m
  · subst h
    go_enter Tryz.func54, Tryz.ntmps54
    go_wp2
    go_loopw [5] (fun i wr => ∃ k : Nat, k ≤ n ∧ i = .int .i64 k ∧ Drawn w wr ∧ upTo xs ys k) (fun i _ => n - (intOf i).toNat)
    case atStart => exact ⟨0, Nat.zero_le _, rfl, Drawn.refl _, fun _ h => absurd h (by omega)⟩
    case round =>
      obtain ⟨k, hk, rfl, hd, hu⟩ := hrel
      by_cases hlt : k < n
      · obtain ⟨a, rfl, hca, hia⟩ := (ha.drawn hd).get hlt
        obtain ⟨b, rfl, hcb, hib⟩ := (hb.drawn hd).get hlt
        by_cases he : nth xs k = nth ys k
        · have he' : (nth xs k != nth ys k) = false := by simp [he]
          have H := Lib.hid (upTo_step hu he); clear hu he
          go_wp2
          go_quiet (fail)
          go_wp2
          go_roundw
          case rel => exact ⟨k + 1, by omega, by go_num, hd.more _, H.out⟩
          case measure => simp [intOf]; omega
        · have he' : (nth xs k != nth ys k) = true := by simp [he]
          have H := Lib.hid (show decide (xs = ys) = false by simp; rintro rfl; exact he rfl)
          clear he hu
          go_wp2
          go_quiet (fail)
          go_wp2
          go_ret
          exact ⟨by rw [H.out]; rfl, hd.more _⟩
      · have H := Lib.hid (show decide (xs = ys) = true by simp; exact upTo_all (by rw [hla.out, hlb.out]) (fun j hj => hu j (by have := hla.out; omega)))
        clear hu
        go_wp2
        go_ret
        exact ⟨by rw [H.out]; rfl, hd⟩
  · have h' : ((n : Int) != (m : Int)) = true := by simp; omega
    have H := Lib.hid (show decide (xs = ys) = false by simp; rintro rfl; exact h (hla.out.symm.trans hlb.out))
    clear h
    go_enter Tryz.func54, Tryz.ntmps54
    go_wp2
    go_ret
    exact ⟨by rw [H.out]; rfl, Drawn.refl _⟩
set_option maxHeartbeats 400000 in
theorem eqInt64SS_any (A B : Option Addr) (n m c d : Nat) (xs ys : List (List Int)) (w : World) (ha : RR w A n xs) (hb : RR w B m ys) (hn : n ≤ 9223372036854775807) (hm : m ≤ 9223372036854775807) :
    Calls Tryz.prog 34 #[.slice A n c, .slice B m d] w (Quiet w (.bool (decide (xs = ys)))) := by
  have hla := Lib.hid ha.len
  have hlb := Lib.hid hb.len
  by_cases h : n = m
  · subst h
    go_enter Tryz.func34, Tryz.ntmps34
    go_wp2
    go_loopw [5] (fun i wr => ∃ k : Nat, k ≤ n ∧ i = .int .i64 k ∧ Drawn w wr ∧ upToR xs ys k) (fun i _ => n - (intOf i).toNat)
    case atStart => exact ⟨0, Nat.zero_le _, rfl, Drawn.refl _, fun _ h => absurd h (by omega)⟩
    case round =>
      obtain ⟨k, hk, rfl, hd, hu⟩ := hrel
      by_cases hlt : k < n
      · obtain ⟨a, A1, n1, c1, rfl, hca, hn1, hc1, ha1⟩ := (ha.drawn hd).get hlt
        obtain ⟨b, B1, m1, d1, rfl, hcb, hm1, hd1, hb1⟩ := (hb.drawn hd).get hlt
        by_cases he : row xs k = row ys k
        · have he' : decide (row xs k = row ys k) = true := by simp [he]
          have H := Lib.hid (upToR_step hu he); clear hu he
          go_wp2
          go_quiet ((go_at_call 54; exact Quiet.call (eqInt64S_any A1 B1 n1 m1 c1 d1 (row xs k) (row ys k) _ (ha1.drewN _) (hb1.drewN _) (by omega) (by omega))))
          go_wp2
          go_roundw
          case rel => exact ⟨k + 1, by omega, by go_num, hd.more _, H.out⟩
          case measure => simp [intOf]; omega
        · have he' : decide (row xs k = row ys k) = false := by simp [he]
          have H := Lib.hid (show decide (xs = ys) = false by simp; rintro rfl; exact he rfl)
          clear he hu
          go_wp2
          go_quiet ((go_at_call 54; exact Quiet.call (eqInt64S_any A1 B1 n1 m1 c1 d1 (row xs k) (row ys k) _ (ha1.drewN _) (hb1.drewN _) (by omega) (by omega))))
          go_wp2
          go_ret
          exact ⟨by rw [H.out]; rfl, hd.more _⟩
      · have H := Lib.hid (show decide (xs = ys) = true by simp; exact upToR_all (by rw [hla.out, hlb.out]) (fun j hj => hu j (by have := hla.out; omega)))
        clear hu
        go_wp2
        go_ret
        exact ⟨by rw [H.out]; rfl, hd⟩
  · have h' : ((n : Int) != (m : Int)) = true := by simp; omega
    have H := Lib.hid (show decide (xs = ys) = false by simp; rintro rfl; exact h (hla.out.symm.trans hlb.out))
    clear h
    go_enter Tryz.func34, Tryz.ntmps34
    go_wp2
    go_ret
    exact ⟨by rw [H.out]; rfl, Drawn.refl _⟩
theorem int_info : (Tryz.prog.info? 2).map (fun i => (i.zero, i.size, i.bytes)) = some (some (.int .i64 0), 1, 8) := by kernel_rfl
theorem ints_info : (Tryz.prog.info? 36).map (fun i => (i.zero, i.size, i.bytes)) = some (some (.slice none 0 0), 1, 24) := by kernel_rfl
set_option maxHeartbeats 400000 in
theorem heldInt64S_any (A : Option Addr) (n c k : Nat) (w : World) (ha : RI w A n (marks k n)) (hn : k + n ≤ 4611686018427387904) :
    Calls Tryz.prog 56 #[.slice A n c, .int .i64 k] w fun e w' => e = .returned (.int .i64 ((k + n : Nat) : Int)) ∧ w = w' := by
  go_enter Tryz.func56, Tryz.ntmps56
  go_wp2
  go_loop [1, 5] (fun q i => ∃ j : Nat, j ≤ n ∧ i = .int .i64 j ∧ q = .int .i64 ((k + j : Nat) : Int)) (fun _ i => n - (intOf i).toNat)
  case atStart => exact ⟨0, Nat.zero_le _, rfl, by simp⟩
  case round =>
    obtain ⟨j, hj, rfl, rfl⟩ := hrel
    by_cases hlt : j < n
    · obtain ⟨a, rfl, hca, hia⟩ := ha.get hlt
      rw [marks_nth hlt] at hca
      go_wp2
      go_round
      case rel => exact ⟨j + 1, by omega, by go_num, by go_num⟩
      case measure => simp [intOf]; omega
    · obtain rfl : j = n := by omega
      go_wp2
      go_ret
      exact ⟨rfl, rfl⟩
structure Mid (w w' : World) (B D : Nat) : Prop where
  os : w'.os = w.os
  tape : w'.tape = w.tape
  output : w'.output = w.output
  size : w.heap.size ≤ w'.heap.size
  blk : ∀ k, k < w.heap.size → (k < B ∨ D ≤ k) → w'.heap[k]? = w.heap[k]?
section
variable {w w' w'' : World} {B D B' D' : Nat}
theorem Mid.refl (w : World) (B D : Nat) : Mid w w B D := ⟨rfl, rfl, rfl, Nat.le_refl _, fun _ _ _ => rfl⟩
theorem Mid.trans (h : Mid w w' B D) (k : Mid w' w'' B D) : Mid w w'' B D :=
  ⟨k.os.trans h.os, k.tape.trans h.tape, k.output.trans h.output, Nat.le_trans h.size k.size, fun j hj hb => (k.blk j (Nat.lt_of_lt_of_le hj h.size) hb).trans (h.blk j hj hb)⟩
theorem Mid.of_below {C : Nat} (h : Below C w w') (hC : w.heap.size ≤ C) (B D : Nat) : Mid w w' B D := ⟨h.os, h.tape, h.output, h.size, fun k hk _ => h.block k (Nat.lt_of_lt_of_le hk hC)⟩
theorem Mid.below (h : Mid w w' B D) (hB : B ≤ w.heap.size) : Below B w w' := ⟨h.os, h.tape, h.output, h.size, fun k hk => h.blk k (Nat.lt_of_lt_of_le hk hB) (.inl hk)⟩
theorem Mid.grown {r : Option Nat} (h : w.grownBy w' r) (hr : ∀ b, r = some b → B ≤ b ∧ b < D) : Mid w w' B D :=
  ⟨h.os, h.tape, h.output, h.size, fun k hk hb => h.block k hk (fun e => by have := hr k e.symm; omega)⟩
theorem Blk.mid {g : Nat} {t : TypeId} {cs : Array Value} (h : Blk w g t cs) (hm : Mid w w' B D) (hg : g < B ∨ D ≤ g) : Blk w' g t cs := (hm.blk g h.lt hg).trans h
theorem OS.mid {C : Nat} {e : TypeId} {size : Nat} {A : Option Addr} {n c : Nat} {xs : List Value} (h : OS w C e size A n c xs) (hm : Mid w w' B D) (hg : ∀ b, blk A = some b → b < B ∨ D ≤ b) : OS w' C e size A n c xs := by
  refine ⟨h.1, ?_⟩
  rcases h.2 with h2 | ⟨g, cap, cur, hv, h1, hb, r⟩
  · exact .inl h2
  · refine .inr ⟨g, cap, cur, hv, h1, ?_, r⟩
    have hA : blk A = some g := by injection hv with ha; rw [ha]; rfl
    rw [hm.blk g (Array.getElem?_eq_some_iff.1 hb).1 (hg g hA)]
    exact hb
theorem OI.mid {C : Nat} {e : TypeId} {A : Option Addr} {n c : Nat} {zs : List Int} (h : OI w C e A n c zs) (hm : Mid w w' B D) (hg : ∀ b, blk A = some b → b < B ∨ D ≤ b) : OI w' C e A n c zs := ⟨h.os.mid hm hg, h.all⟩
end
structure ORdv (w : World) (B D : Nat) (e2 e1 : TypeId) (A : Option Addr) (n c : Nat) (vs : List Sl) (zss : List (List Int)) : Prop where
  orv : ORv w B e2 e1 A n c vs zss
  lt : ∀ b, blk A = some b → b < D
  ltr : ∀ (j : Nat) (u : Sl) (b : Nat), vs[j]? = some u → blk u.1 = some b → b < D
def ORd (w : World) (B D : Nat) (e2 e1 : TypeId) (A : Option Addr) (n c : Nat) (zss : List (List Int)) : Prop := ∃ vs, ORdv w B D e2 e1 A n c vs zss
section
variable {w w' : World} {B D : Nat} {e2 e1 : TypeId} {A : Option Addr} {n c : Nat} {vs : List Sl} {zss : List (List Int)}
theorem ORv.row_lt (h : ORv w B e2 e1 A n c vs zss) {j : Nat} {u : Sl} {b : Nat} (hu : vs[j]? = some u) (hb : blk u.1 = some b) : B ≤ b ∧ b < w.heap.size := by
  have hj : j < zss.length := by rw [← h.len]; exact (List.getElem?_eq_some_iff.1 hu).1
  exact (h.rows j u _ hu (List.getElem?_eq_getElem hj)).os.lt hb
theorem ORv.below (h : ORv w B e2 e1 A n c vs zss) (hb : Below w.heap.size w w') : ORv w' B e2 e1 A n c vs zss :=
  h.kept (r := none) (grownBy_of_below hb none) (by cases A <;> simp [blk]) (fun j v _ => by obtain ⟨a, b, c⟩ := v; cases a <;> simp [blk])
theorem OR.bound (h : OR w B e2 e1 A n c zss) : ORd w B w.heap.size e2 e1 A n c zss := by
  obtain ⟨vs, h⟩ := h
  exact ⟨vs, h, fun b hb => (h.os.lt hb).2, fun j u b hu hb => (h.row_lt hu hb).2⟩
theorem ORd.own (h : ORd w B D e2 e1 A n c zss) : OR w B e2 e1 A n c zss := by
  obtain ⟨vs, h⟩ := h
  exact ⟨vs, h.orv⟩
theorem ORd.len (h : ORd w B D e2 e1 A n c zss) : zss.length = n := h.own.len
theorem ORd.reads (h : ORd w B D e2 e1 A n c zss) : RR w A n zss := h.own.reads
theorem ORdv.mid {B' D' : Nat} (h : ORdv w B D e2 e1 A n c vs zss) (hm : Mid w w' B' D') (hd : D' ≤ B ∨ D ≤ B') : ORdv w' B D e2 e1 A n c vs zss :=
  ⟨⟨h.orv.os.mid hm (fun b hb => by have := (h.orv.os.lt hb).1; have := h.lt b hb; omega), h.orv.len,
    fun j u z hu hz => (h.orv.rows j u z hu hz).mid hm (fun b hb => by have := (h.orv.row_lt hu hb).1; have := h.ltr j u b hu hb; omega), h.orv.sep, h.orv.ne⟩, h.lt, h.ltr⟩
theorem ORd.mid {B' D' : Nat} (h : ORd w B D e2 e1 A n c zss) (hm : Mid w w' B' D') (hd : D' ≤ B ∨ D ≤ B') : ORd w' B D e2 e1 A n c zss := by
  obtain ⟨vs, h⟩ := h
  exact ⟨vs, h.mid hm hd⟩
theorem ORd.below (h : ORd w B D e2 e1 A n c zss) (hb : Below w.heap.size w w') : ORd w' B D e2 e1 A n c zss := h.mid (Mid.of_below hb (Nat.le_refl _) 0 0) (.inl (Nat.zero_le _))
end
/-! marks over rows -/
def marksR : Nat → List (List Int) → List (List Int)
  | _, [] => []
  | k, z :: r => marks k z.length :: marksR (k + z.length) r
def cells (zss : List (List Int)) : Nat := (zss.map List.length).sum
theorem cells_app (a b : List (List Int)) : cells (a ++ b) = cells a + cells b := by simp [cells]
theorem cells_one (z : List Int) : cells [z] = z.length := by simp [cells]
theorem cells_take (zss : List (List Int)) {j : Nat} (h : j < zss.length) : cells (zss.take (j + 1)) = cells (zss.take j) + (row zss j).length := by
  rw [List.take_succ_eq_append_getElem h, row_get h, cells_app, cells_one]
theorem cells_le (zss : List (List Int)) (j : Nat) : cells (zss.take j) ≤ cells zss := by
  have h := cells_app (zss.take j) (zss.drop j)
  rw [List.take_append_drop] at h
  omega
theorem marksR_len (k : Nat) (zss : List (List Int)) : (marksR k zss).length = zss.length := by
  induction zss generalizing k with
  | nil => rfl
  | cons z r ih => simp [marksR, ih]
theorem marksR_app (k : Nat) (a b : List (List Int)) : marksR k (a ++ b) = marksR k a ++ marksR (k + cells a) b := by
  induction a generalizing k with
  | nil => simp [marksR, cells]
  | cons z r ih => simp [marksR, ih, cells, Nat.add_assoc]
theorem marksR_row (k : Nat) (zss : List (List Int)) {j : Nat} (h : j < zss.length) : row (marksR k zss) j = marks (k + cells (zss.take j)) (row zss j).length := by
  have e : zss = zss.take j ++ zss[j] :: zss.drop (j + 1) := by rw [← List.drop_eq_getElem_cons h, List.take_append_drop]
  have hl : (marksR k (zss.take j)).length = j := by rw [marksR_len, List.length_take]; omega
  conv => lhs; rw [e]
  rw [marksR_app, marksR, row, List.getD, List.getElem?_append_right (by omega), hl, Nat.sub_self, row_get h]
  rfl
def markedR (k : Nat) (zss : List (List Int)) (j : Nat) : List (List Int) := marksR k (zss.take j) ++ zss.drop j
theorem markedR_zero (k : Nat) (zss : List (List Int)) : markedR k zss 0 = zss := by simp [markedR, marksR]
theorem markedR_all (k : Nat) (zss : List (List Int)) : markedR k zss zss.length = marksR k zss := by simp [markedR]
theorem markedR_row {k : Nat} {zss : List (List Int)} {j : Nat} (h : j < zss.length) : row (markedR k zss j) j = row zss j := by
  have hl : (marksR k (zss.take j)).length = j := by rw [marksR_len, List.length_take]; omega
  rw [markedR, row, List.getD, List.getElem?_append_right (by omega), hl, Nat.sub_self, List.drop_eq_getElem_cons h, row_get h]
  rfl
theorem markedR_step {k : Nat} {zss : List (List Int)} {j : Nat} (h : j < zss.length) : (markedR k zss j).set j (marks (k + cells (zss.take j)) (row zss j).length) = markedR k zss (j + 1) := by
  have hl : (marksR k (zss.take j)).length = j := by rw [marksR_len, List.length_take]; omega
  unfold markedR
  rw [List.set_append_right _ _ (by omega), hl, Nat.sub_self, List.drop_eq_getElem_cons h, List.set_cons_zero, List.take_succ_eq_append_getElem h, marksR_app, row_get h]
  simp [marksR]
end Go.Proofs.YtnmcmologlgccaaGreat
