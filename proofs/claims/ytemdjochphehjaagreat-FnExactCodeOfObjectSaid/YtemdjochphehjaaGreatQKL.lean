/- Codes in memory of a call's own, marked and held; between the calls of a law whose result is a code. No condition beyond those stated. -/
import Derived.Test.YtemdjochphehjaaGreatQJG
import Derived.Test.YtemdjochphehjaaGreatQKG
set_option linter.unusedVariables false
set_option linter.unusedSimpArgs false
namespace Go.Proofs.YtemdjochphehjaaGreat
open Go.RowKit

/-- a code in memory from B on and below D: the polynomial before mm, the rows from mm on -/
structure OCo (w : World) (B D mm : Nat) (A : Option Addr) (n c : Nat) (f : List Int) (M : Option Addr) (r rc : Nat) (zss : List (List Int)) : Prop where
  oi : OI w B 2 A n c f
  lt : ∀ b, blk A = some b → b < mm
  od : ORd w mm D 22 2 M r rc zss
  hB : B ≤ mm
  hD : mm ≤ D
section
variable {w w' : World} {B D mm : Nat} {A : Option Addr} {n c : Nat} {f : List Int} {M : Option Addr} {r rc : Nat} {zss : List (List Int)}
theorem OCo.mid {B' D' : Nat} (h : OCo w B D mm A n c f M r rc zss) (hm : Mid w w' B' D') (hd : D' ≤ B ∨ D ≤ B') : OCo w' B D mm A n c f M r rc zss :=
  ⟨h.oi.mid hm fun b hb => by have h1 := (h.oi.os.lt hb).1; have h2 := h.lt b hb; have := h.hD; omega, h.lt, h.od.mid hm (by have := h.hB; have := h.hD; omega), h.hB, h.hD⟩
theorem OCo.below (h : OCo w B D mm A n c f M r rc zss) (hb : Below w.heap.size w w') : OCo w' B D mm A n c f M r rc zss := h.mid (Mid.of_below hb (Nat.le_refl _) 0 0) (.inl (Nat.zero_le _))
theorem OCo.reads (h : OCo w B D mm A n c f M r rc zss) : RCo w A n f M r zss := ⟨h.oi.reads, h.od.reads⟩
end
theorem RetCo.own {w w' : World} {A : Option Addr} {n c : Nat} {f : List Int} {M : Option Addr} {r rc m : Nat} {zss : List (List Int)} (hi : OI w' w.heap.size 2 A n c f) (hlt : ∀ k, blk A = some k → k < m) (ho : OR w' m 22 2 M r rc zss) (h1 : w.heap.size ≤ m) (h2 : m ≤ w'.heap.size) :
    OCo w' w.heap.size w'.heap.size m A n c f M r rc zss := ⟨hi, hlt, ho.bound, h1, h2⟩
theorem markField_ex (P D : Int) (B : Nat) (e : TypeId) (A : Option Addr) (n c k : Nat) (zs : List Int) (w : World) (ha : OI w B e A n c zs) (hn : k + n ≤ 4611686018427387904) :
    Calls Tryz.prog 59 #[.agg #[.int .i64 P, .int .i64 D, .slice A n c], .int .i64 k] w fun en w' => en = .returned (.int .i64 ((k + n : Nat) : Int)) ∧ ∃ w1, Below w.heap.size w w1 ∧ w1.grownBy w' (blk A) ∧ OI w' B e A n c (marks k n) := by
  have hb := below_alloc w (.cells #[.int .i64 P, .int .i64 D, .slice A n c] 33)
  go_enter Tryz.func59, Tryz.ntmps59
  go_wp2_with fail
  refine (markInt64S_own B e A n c k zs _ (ha.below hb) hn).mono ?_
  rintro en w1 ⟨rfl, ho, hg⟩
  go_wp2
  go_ret
  exact ⟨rfl, _, hb, hg, ho⟩
set_option maxHeartbeats 400000 in
theorem markCode_ex (P D : Int) (B E m : Nat) (A : Option Addr) (n c : Nat) (f : List Int) (M : Option Addr) (r rc k : Nat) (zss : List (List Int)) (w : World) (h : OCo w B E m A n c f M r rc zss) (hrc : r ≤ 1099511627776) (hE : E ≤ w.heap.size) (hk : k + n + cells zss ≤ 4611686018427387904) :
    Calls Tryz.prog 16 #[.agg #[.int .i64 P, .int .i64 D, .slice A n c, .slice M r rc], .int .i64 k] w fun en w' => en = .returned (.int .i64 ((k + n + cells zss : Nat) : Int)) ∧ OCo w' B E m A n c (marks k n) M r rc (marksR (k + n) zss) ∧ Mid w w' B E := by
  obtain ⟨ho, hlt, hr, hBm, hmE⟩ := h
  have hb := below_alloc w (.cells #[.int .i64 P, .int .i64 D, .slice A n c, .slice M r rc] 35)
  have X := Blk.new w 35 #[.int .i64 P, .int .i64 D, .slice A n c, .slice M r rc]
  have hmf := markField_ex P D B _ A n c k f _ (ho.below hb) (by omega)
  go_enter Tryz.func16, Tryz.ntmps16
  go_wp2_with fail
  refine hmf.mono ?_
  rintro en w2 ⟨rfl, w1, hb1, hg, ho2⟩
  have hm0 : Mid w w2 B m := (Mid.of_below hb (Nat.le_refl _) B m).trans ((Mid.of_below hb1 (Nat.le_refl _) B m).trans (Mid.grown hg fun b hb => ⟨(ho.os.lt hb).1, hlt b hb⟩))
  have hm1 : Mid w w2 B E := (Mid.of_below hb (Nat.le_refl _) B E).trans ((Mid.of_below hb1 (Nat.le_refl _) B E).trans (Mid.grown hg fun b hb => ⟨(ho.os.lt hb).1, by have := hlt b hb; omega⟩))
  have X2 := (X.after hb1).grown hg (fun e => by have := (ho.os.lt e.symm).2; omega)
  obtain ⟨x0, x1, x2, x3⟩ := tri_blk X2
  have hr2 : ORd w2 m E 22 2 M r rc zss := hr.mid hm0 (.inl (Nat.le_refl m))
  generalize hq : k + n = q at *
  have HQ := Lib.hid hq
  clear hq
  go_wp2_with fail
  refine (markInt64SS_any m E _ _ M r rc q zss _ hr2 hrc (by omega)).mono ?_
  rintro en w3 ⟨rfl, hr3, hm3⟩
  have ho3 := ho2.mid hm3 (fun b hb => .inl (hlt b hb))
  go_wp2
  go_ret
  exact ⟨ret_int (by have := HQ.out; omega), ⟨ho3, hlt, by rw [HQ.out]; exact hr3, hBm, hmE⟩, hm1.trans ⟨hm3.os, hm3.tape, hm3.output, hm3.size, fun k hk h => hm3.blk k hk (by omega)⟩⟩
theorem heldField_any (P D : Int) (A : Option Addr) (n c k : Nat) (w : World) (ha : RI w A n (marks k n)) (hn : k + n ≤ 4611686018427387904) :
    Calls Tryz.prog 79 #[.agg #[.int .i64 P, .int .i64 D, .slice A n c], .int .i64 k] w fun en w' => en = .returned (.int .i64 ((k + n : Nat) : Int)) ∧ Below w.heap.size w w' := by
  have hb := below_alloc w (.cells #[.int .i64 P, .int .i64 D, .slice A n c] 33)
  go_enter Tryz.func79, Tryz.ntmps79
  go_wp2_with fail
  refine (heldInt64S_any A n c k _ (ha.keep hb) hn).mono ?_
  rintro en w1 ⟨rfl, rfl⟩
  go_wp2
  go_ret
  exact ⟨rfl, hb⟩
set_option maxHeartbeats 400000 in
theorem heldCode_any (P D : Int) (A : Option Addr) (n c : Nat) (M : Option Addr) (r rc k : Nat) (zss : List (List Int)) (w : World) (ha : RI w A n (marks k n)) (hr : RR w M r (marksR (k + n) zss)) (hrc : r ≤ 1099511627776) (hk : k + n + cells zss ≤ 4611686018427387904) :
    Calls Tryz.prog 40 #[.agg #[.int .i64 P, .int .i64 D, .slice A n c, .slice M r rc], .int .i64 k] w fun en w' => en = .returned (.int .i64 ((k + n + cells zss : Nat) : Int)) ∧ Below w.heap.size w w' := by
  have hb := below_alloc w (.cells #[.int .i64 P, .int .i64 D, .slice A n c, .slice M r rc] 35)
  have X := Blk.new w 35 #[.int .i64 P, .int .i64 D, .slice A n c, .slice M r rc]
  have hf := heldField_any P D A n c k _ (ha.keep hb) (by omega)
  have hr1 := hr.keep hb
  generalize hq : k + n = q at *
  have HQ := Lib.hid hq
  clear hq
  go_enter Tryz.func40, Tryz.ntmps40
  go_wp2_with fail
  refine hf.mono ?_
  rintro en w1 ⟨rfl, hb1⟩
  obtain ⟨x0, x1, x2, x3⟩ := tri_blk (X.after hb1)
  go_wp2_with fail
  refine (heldInt64SS_any M r rc q zss _ (hr1.keep hb1) hrc (by omega)).mono ?_
  rintro en w2 ⟨rfl, rfl⟩
  go_wp2
  go_ret
  exact ⟨ret_int (by have := HQ.out; omega), hb.trans (hb1.mono hb.size)⟩
/-- between the calls of a law: the reference's code (its variable in block g4), the program's one (its variable in block g7), which holds fy and Y -/
structure LStK (w w2 w' : World) (T : TypeId) (K S : Int) (fz : List Int) (Z : List (List Int)) (fy : List Int) (Y : List (List Int)) (g4 g7 B D mm : Nat) (A2 A4 : Option Addr) (n2 c2 n4 c4 : Nat) (N2 N4 : Option Addr) (j2 jc2 j4 jc4 : Nat) : Prop where
  bw : Below w.heap.size w w2
  b2 : Below w2.heap.size w2 w'
  r2 : RCo w2 A2 n2 fz N2 j2 Z
  x4 : Blk w' g4 T #[.int .i64 K, .int .i64 S, .slice A2 n2 c2, .slice N2 j2 jc2]
  x7 : Blk w' g7 T #[.int .i64 K, .int .i64 S, .slice A4 n4 c4, .slice N4 j4 jc4]
  o4 : OCo w' B D mm A4 n4 c4 fy N4 j4 jc4 Y
  hB : w2.heap.size ≤ B
section
variable {w w2 w' w'' : World} {T : TypeId} {K S : Int} {fz fy fy' : List Int} {Z Y Y' : List (List Int)} {g4 g7 B D mm : Nat} {A2 A4 N2 N4 : Option Addr} {n2 c2 n4 c4 j2 jc2 j4 jc4 : Nat}
theorem LStK.below (h : LStK w w2 w' T K S fz Z fy Y g4 g7 B D mm A2 A4 n2 c2 n4 c4 N2 N4 j2 jc2 j4 jc4) : Below w.heap.size w w' := h.bw.trans (h.b2.mono h.bw.size)
theorem LStK.step (h : LStK w w2 w' T K S fz Z fy Y g4 g7 B D mm A2 A4 n2 c2 n4 c4 N2 N4 j2 jc2 j4 jc4) (hb : Below w'.heap.size w' w'') : LStK w w2 w'' T K S fz Z fy Y g4 g7 B D mm A2 A4 n2 c2 n4 c4 N2 N4 j2 jc2 j4 jc4 :=
  ⟨h.bw, h.b2.trans (hb.mono h.b2.size), h.r2, h.x4.after hb, h.x7.after hb, h.o4.below hb, h.hB⟩
theorem LStK.mid {B' D' : Nat} (h : LStK w w2 w' T K S fz Z fy Y g4 g7 B D mm A2 A4 n2 c2 n4 c4 N2 N4 j2 jc2 j4 jc4) (hm : Mid w' w'' B' D') (h1 : w2.heap.size ≤ B') (h4 : g4 < B' ∨ D' ≤ g4) (h7 : g7 < B' ∨ D' ≤ g7) (ho : D' ≤ B ∨ D ≤ B') : LStK w w2 w'' T K S fz Z fy Y g4 g7 B D mm A2 A4 n2 c2 n4 c4 N2 N4 j2 jc2 j4 jc4 :=
  ⟨h.bw, h.b2.trans ((Mid.below (B := w2.heap.size) (D := D') ⟨hm.os, hm.tape, hm.output, hm.size, fun k hk hb => hm.blk k hk (hb.elim (fun h => .inl (by omega)) .inr)⟩ h.b2.size)), h.r2, h.x4.mid hm h4, h.x7.mid hm h7, h.o4.mid hm ho, h.hB⟩
theorem LStK.marked (h : LStK w w2 w' T K S fz Z fy Y g4 g7 B D mm A2 A4 n2 c2 n4 c4 N2 N4 j2 jc2 j4 jc4) (hm : Mid w' w'' B D) (ho : OCo w'' B D mm A4 n4 c4 fy' N4 j4 jc4 Y') (h4 : g4 < B ∨ D ≤ g4) (h7 : g7 < B ∨ D ≤ g7) : LStK w w2 w'' T K S fz Z fy' Y' g4 g7 B D mm A2 A4 n2 c2 n4 c4 N2 N4 j2 jc2 j4 jc4 :=
  ⟨h.bw, h.b2.trans ((Mid.below (B := w2.heap.size) (D := D) ⟨hm.os, hm.tape, hm.output, hm.size, fun k hk hb => hm.blk k hk (hb.elim (fun h' => .inl (by have := h.hB; omega)) .inr)⟩ h.b2.size)), h.r2, h.x4.mid hm h4, h.x7.mid hm h7, ho, h.hB⟩
theorem LStK.cells (h : LStK w w2 w' T K S fz Z fy Y g4 g7 B D mm A2 A4 n2 c2 n4 c4 N2 N4 j2 jc2 j4 jc4) :
    (w'.cell? ⟨g4, 0, none⟩ = some (.int .i64 K) ∧ w'.cell? ⟨g4, 1, none⟩ = some (.int .i64 S) ∧ w'.cell? ⟨g4, 2, none⟩ = some (.slice A2 n2 c2) ∧ w'.cell? ⟨g4, 3, none⟩ = some (.slice N2 j2 jc2)) ∧
    (w'.cell? ⟨g7, 0, none⟩ = some (.int .i64 K) ∧ w'.cell? ⟨g7, 1, none⟩ = some (.int .i64 S) ∧ w'.cell? ⟨g7, 2, none⟩ = some (.slice A4 n4 c4) ∧ w'.cell? ⟨g7, 3, none⟩ = some (.slice N4 j4 jc4)) := ⟨tri_blk h.x4, tri_blk h.x7⟩
theorem LStK.rd (h : LStK w w2 w' T K S fz Z fy Y g4 g7 B D mm A2 A4 n2 c2 n4 c4 N2 N4 j2 jc2 j4 jc4) : RCo w' A2 n2 fz N2 j2 Z := h.r2.keep h.b2
end
end Go.Proofs.YtemdjochphehjaaGreat
/- CodeOfObject on both sides. No condition beyond those stated. -/
namespace Go.Proofs.YtemdjochphehjaaGreat
open Go.RowKit

/-- a code of the call's own, and a code of the call -/
def RetCoC (w : World) (P D : Int) (f : List Int) (zss : List (List Int)) (C : Int) (e : Ending) (w' : World) : Prop :=
  ∃ A n c M r rc m, e = .returned (.tuple #[.agg #[.int .i64 P, .int .i64 D, .slice A n c, .slice M r rc], .int .i64 C]) ∧ OI w' w.heap.size 2 A n c f ∧ (∀ k, blk A = some k → k < m) ∧ OR w' m 22 2 M r rc zss ∧ w.heap.size ≤ m ∧ m ≤ w'.heap.size ∧ Below w.heap.size w w'
set_option maxHeartbeats 1000000 in
theorem impl_CodeOfObject_no (kk s : Int) (A : Option Addr) (n c : Nat) (zss : List (List Int)) (w : World) (ha : RR w A n zss) (hn : n ≤ 1099511627776) (hr : cells zss ≤ 1099511627776) (hc1 : n ≤ c) (hc2 : c ≤ 9223372036854775807) (C : Int) (hC : askC kk s zss 5 = C) (h0 : C ≠ 0) :
    Calls Tryz.prog 39 #[.agg #[.int .i64 kk, .int .i64 s, .slice A n c]] w (RetCoC w 0 0 [] [] C) := by
  have hb1 := (below_alloc w (.cells #[.int .i64 kk, .int .i64 s, .slice A n c] 30)).alloc (by simp) (.cells #[.int .i64 0, .int .i64 0, .slice none 0 0, .slice none 0 0] 35)
  have X := (Blk.new w 30 #[.int .i64 kk, .int .i64 s, .slice A n c]).alloc (.cells #[.int .i64 0, .int .i64 0, .slice none 0 0, .slice none 0 0] 35)
  have R : Blk ((w.alloc (.cells #[.int .i64 kk, .int .i64 s, .slice A n c] 30)).alloc (.cells #[.int .i64 0, .int .i64 0, .slice none 0 0, .slice none 0 0] 35)) (w.heap.size + 1) 35 #[.int .i64 0, .int .i64 0, .slice none 0 0, .slice none 0 0] := by
    have := Blk.new (w.alloc (.cells #[.int .i64 kk, .int .i64 s, .slice A n c] 30)) 35 #[.int .i64 0, .int .i64 0, .slice none 0 0, .slice none 0 0]
    simpa using this
  have hz : ((w.alloc (.cells #[.int .i64 kk, .int .i64 s, .slice A n c] 30)).alloc (.cells #[.int .i64 0, .int .i64 0, .slice none 0 0, .slice none 0 0] 35)).heap.size = w.heap.size + 2 := by simp
  have hof := ofKind_any kk s 5 A n c zss _ (ha.keep hb1) hn hr hc1 hc2
  rw [hC] at hof
  have e1 : (C != 0) = true := by simpa using h0
  clear hC h0
  go_enter Tryz.func39, Tryz.ntmps39
  go_wp2_with fail
  refine hof.mono ?_
  rintro e w2 ⟨rfl, hb⟩
  have R2 := R.after hb
  have hw := hb1.trans (hb.mono hb1.size)
  have hsz := hw.size
  clear hb R X hof hb1
  obtain ⟨z0, z1, z2, z3⟩ := tri_blk R2
  have f0 := R2.frozen 0
  have f1 := R2.frozen 1
  have f2 := R2.frozen 2
  have f3 := R2.frozen 3
  go_wp2
  refine bodyPost_ret (v := .tuple #[.agg #[.int .i64 0, .int .i64 0, .slice none 0 0, .slice none 0 0], .int .i64 C]) (by simp [results, Tryz.results39, go_sem, z0, z1, z2, z3]) rfl ⟨none, 0, 0, none, 0, 0, w.heap.size, rfl, OI.nil_ _ _ _, fun k hk => by simp [blk] at hk, OR.nil_ _ _ (by decide), Nat.le_refl _, by simpa using hsz, ?_⟩
  repeat (refine Below.setCell ?_ (by simp <;> omega) _)
  exact hw
set_option maxHeartbeats 1000000 in
theorem impl_CodeOfObject_yes (kk s : Int) (A : Option Addr) (n c : Nat) (zss : List (List Int)) (w : World) (ha : RR w A n zss) (hn : n ≤ 1099511627776) (hr : cells zss ≤ 1099511627776) (hc1 : n ≤ c) (hc2 : c ≤ 9223372036854775807) (hC : askC kk s zss 5 = 0) (p : Int) (k : Nat) (hm : (p, k) ∈ PKL) (hs : p ^ k = s) :
    Calls Tryz.prog 39 #[.agg #[.int .i64 kk, .int .i64 s, .slice A n c]] w (RetCoC w p k (mkP p k) zss 0) := by
  have hb1 := (below_alloc w (.cells #[.int .i64 kk, .int .i64 s, .slice A n c] 30)).alloc (by simp) (.cells #[.int .i64 0, .int .i64 0, .slice none 0 0, .slice none 0 0] 35)
  have X := (Blk.new w 30 #[.int .i64 kk, .int .i64 s, .slice A n c]).alloc (.cells #[.int .i64 0, .int .i64 0, .slice none 0 0, .slice none 0 0] 35)
  have R : Blk ((w.alloc (.cells #[.int .i64 kk, .int .i64 s, .slice A n c] 30)).alloc (.cells #[.int .i64 0, .int .i64 0, .slice none 0 0, .slice none 0 0] 35)) (w.heap.size + 1) 35 #[.int .i64 0, .int .i64 0, .slice none 0 0, .slice none 0 0] := by
    have := Blk.new (w.alloc (.cells #[.int .i64 kk, .int .i64 s, .slice A n c] 30)) 35 #[.int .i64 0, .int .i64 0, .slice none 0 0, .slice none 0 0]
    simpa using this
  have hz : ((w.alloc (.cells #[.int .i64 kk, .int .i64 s, .slice A n c] 30)).alloc (.cells #[.int .i64 0, .int .i64 0, .slice none 0 0, .slice none 0 0] 35)).heap.size = w.heap.size + 2 := by simp
  have hof := ofKind_any kk s 5 A n c zss _ (ha.keep hb1) hn hr hc1 hc2
  rw [hC] at hof
  clear hC
  have hmk := fun W => makeField_ok hm s W hs
  go_enter Tryz.func39, Tryz.ntmps39
  go_wp2_with fail
  refine hof.mono ?_
  rintro e w2 ⟨rfl, hb⟩
  have R2 := R.after hb
  have hb2 := hb1.trans (hb.mono hb1.size)
  have ha2 := ha.keep hb2
  obtain ⟨x0, x1, x2⟩ := (X.after hb).cells3
  have hz2 := hb.size
  go_wp2_with fail
  refine (codeOfRows_any kk s p k 0 (mkP p k) A n c zss w2 ha2 hn hr hmk).mono ?_
  rintro e w3 ⟨A4, n4, c4, A2, n2, c2, mm, rfl, hi, hlt, ho, hm1, hmz, hb3⟩
  dsimp only
  have R3 := R2.after hb3
  have hw := hb2.trans (hb3.mono hb2.size)
  have hz3 := hb3.size
  clear hb R X hof hb1 R2 x0 x1 x2 hmk hs
  have f0 := (R3).frozen 0
  have cq0 := (R3).cell 0
  have f1 := ((R3).set_ 0 (.int .i64 p)).frozen 1
  have cq1 := ((R3).set_ 0 (.int .i64 p)).cell 1
  have f2 := (((R3).set_ 0 (.int .i64 p)).set_ 1 (.int .i64 k)).frozen 2
  have cq2 := (((R3).set_ 0 (.int .i64 p)).set_ 1 (.int .i64 k)).cell 2
  have f3 := ((((R3).set_ 0 (.int .i64 p)).set_ 1 (.int .i64 k)).set_ 2 (.slice A4 n4 c4)).frozen 3
  have cq3 := ((((R3).set_ 0 (.int .i64 p)).set_ 1 (.int .i64 k)).set_ 2 (.slice A4 n4 c4)).cell 3
  have R9 : Blk ((((w3.setCell ⟨w.heap.size + 1, 0, none⟩ (.int .i64 p)).setCell ⟨w.heap.size + 1, 1, none⟩ (.int .i64 k)).setCell ⟨w.heap.size + 1, 2, none⟩ (.slice A4 n4 c4)).setCell ⟨w.heap.size + 1, 3, none⟩ (.slice A2 n2 c2)) (w.heap.size + 1) 35 #[.int .i64 p, .int .i64 k, .slice A4 n4 c4, .slice A2 n2 c2] := by
    have := ((((R3).set_ 0 (.int .i64 p)).set_ 1 (.int .i64 k)).set_ 2 (.slice A4 n4 c4)).set_ 3 (.slice A2 n2 c2)
    simpa using this
  obtain ⟨z0, z1, z2, z3⟩ := tri_blk R9
  go_wp2
  refine bodyPost_ret (v := .tuple #[.agg #[.int .i64 p, .int .i64 k, .slice A4 n4 c4, .slice A2 n2 c2], .int .i64 0]) (by simp [results, Tryz.results39, go_sem, z0, z1, z2, z3]) rfl ⟨A4, n4, c4, A2, n2, c2, mm, rfl, ?_, hlt, ?_, by omega, by simpa using hmz, ?_⟩
  · refine OI.more (B := w2.heap.size) ?_ (by omega)
    iterate 4 (refine OI.setLow ?_ (by simp <;> omega) _)
    exact hi
  · repeat (refine OR.setLow ?_ (by simp <;> omega) _)
    exact ho
  · repeat (refine Below.setCell ?_ (by simp <;> omega) _)
    exact hw
set_option maxHeartbeats 1000000 in
theorem spec_CodeOfObject_no (kk s : Int) (A : Option Addr) (n c : Nat) (zss : List (List Int)) (w : World) (ha : RR w A n zss) (hn : n ≤ 1099511627776) (hr : cells zss ≤ 1099511627776) (hc1 : n ≤ c) (hc2 : c ≤ 9223372036854775807) (C : Int) (hC : askC kk s zss 5 = C) (h0 : C ≠ 0) :
    Calls Tryz.prog 38 #[.agg #[.int .i64 kk, .int .i64 s, .slice A n c]] w (RetCoC w 0 0 [] [] C) := by
  have hb1 := (below_alloc w (.cells #[.int .i64 kk, .int .i64 s, .slice A n c] 30)).alloc (by simp) (.cells #[.int .i64 0, .int .i64 0, .slice none 0 0, .slice none 0 0] 35)
  have X := (Blk.new w 30 #[.int .i64 kk, .int .i64 s, .slice A n c]).alloc (.cells #[.int .i64 0, .int .i64 0, .slice none 0 0, .slice none 0 0] 35)
  have R : Blk ((w.alloc (.cells #[.int .i64 kk, .int .i64 s, .slice A n c] 30)).alloc (.cells #[.int .i64 0, .int .i64 0, .slice none 0 0, .slice none 0 0] 35)) (w.heap.size + 1) 35 #[.int .i64 0, .int .i64 0, .slice none 0 0, .slice none 0 0] := by
    have := Blk.new (w.alloc (.cells #[.int .i64 kk, .int .i64 s, .slice A n c] 30)) 35 #[.int .i64 0, .int .i64 0, .slice none 0 0, .slice none 0 0]
    simpa using this
  have hz : ((w.alloc (.cells #[.int .i64 kk, .int .i64 s, .slice A n c] 30)).alloc (.cells #[.int .i64 0, .int .i64 0, .slice none 0 0, .slice none 0 0] 35)).heap.size = w.heap.size + 2 := by simp
  have hof := l30Ask_any _ kk s 5 A n c zss _ X (ha.keep hb1) hn hc1 hc2
  rw [hC] at hof
  have e1 : (C != 0) = true := by simpa using h0
  clear hC h0
  go_enter Tryz.func38, Tryz.ntmps38
  go_wp2_with fail
  refine hof.mono ?_
  rintro e w2 ⟨rfl, hb⟩
  have R2 := R.after hb
  have hw := hb1.trans (hb.mono hb1.size)
  have hsz := hw.size
  clear hb R X hof hb1
  obtain ⟨z0, z1, z2, z3⟩ := tri_blk R2
  have f0 := R2.frozen 0
  have f1 := R2.frozen 1
  have f2 := R2.frozen 2
  have f3 := R2.frozen 3
  go_wp2
  refine bodyPost_ret (v := .tuple #[.agg #[.int .i64 0, .int .i64 0, .slice none 0 0, .slice none 0 0], .int .i64 C]) (by simp [results, Tryz.results38, go_sem, z0, z1, z2, z3]) rfl ⟨none, 0, 0, none, 0, 0, w.heap.size, rfl, OI.nil_ _ _ _, fun k hk => by simp [blk] at hk, OR.nil_ _ _ (by decide), Nat.le_refl _, by simpa using hsz, ?_⟩
  repeat (refine Below.setCell ?_ (by simp <;> omega) _)
  exact hw
set_option maxHeartbeats 1000000 in
theorem spec_CodeOfObject_yes (kk s : Int) (A : Option Addr) (n c : Nat) (zss : List (List Int)) (w : World) (ha : RR w A n zss) (hn : n ≤ 1099511627776) (hr : cells zss ≤ 1099511627776) (hc1 : n ≤ c) (hc2 : c ≤ 9223372036854775807) (hC : askC kk s zss 5 = 0) (p : Int) (k : Nat) (hm : (p, k) ∈ PKL) (hs : p ^ k = s) :
    Calls Tryz.prog 38 #[.agg #[.int .i64 kk, .int .i64 s, .slice A n c]] w (RetCoC w p k (mkP p k) zss 0) := by
  have hb1 := (below_alloc w (.cells #[.int .i64 kk, .int .i64 s, .slice A n c] 30)).alloc (by simp) (.cells #[.int .i64 0, .int .i64 0, .slice none 0 0, .slice none 0 0] 35)
  have X := (Blk.new w 30 #[.int .i64 kk, .int .i64 s, .slice A n c]).alloc (.cells #[.int .i64 0, .int .i64 0, .slice none 0 0, .slice none 0 0] 35)
  have R : Blk ((w.alloc (.cells #[.int .i64 kk, .int .i64 s, .slice A n c] 30)).alloc (.cells #[.int .i64 0, .int .i64 0, .slice none 0 0, .slice none 0 0] 35)) (w.heap.size + 1) 35 #[.int .i64 0, .int .i64 0, .slice none 0 0, .slice none 0 0] := by
    have := Blk.new (w.alloc (.cells #[.int .i64 kk, .int .i64 s, .slice A n c] 30)) 35 #[.int .i64 0, .int .i64 0, .slice none 0 0, .slice none 0 0]
    simpa using this
  have hz : ((w.alloc (.cells #[.int .i64 kk, .int .i64 s, .slice A n c] 30)).alloc (.cells #[.int .i64 0, .int .i64 0, .slice none 0 0, .slice none 0 0] 35)).heap.size = w.heap.size + 2 := by simp
  have hof := l30Ask_any _ kk s 5 A n c zss _ X (ha.keep hb1) hn hc1 hc2
  rw [hC] at hof
  clear hC
  go_enter Tryz.func38, Tryz.ntmps38
  go_wp2_with fail
  refine hof.mono ?_
  rintro e w2 ⟨rfl, hb⟩
  have R2 := R.after hb
  have X2 := X.after hb
  have hb2 := hb1.trans (hb.mono hb1.size)
  have hz2 := hb.size
  dsimp only
  have hco := l30Code_yes w.heap.size kk s p k A n c w2 X2 hm hs
  go_wp2_with fail
  refine hco.mono ?_
  rintro e w3 ⟨A4, n4, c4, rfl, hi, hb3⟩
  have R3 := R2.after hb3
  have X3 := X2.after hb3
  have hb4 := hb2.trans (hb3.mono hb2.size)
  have hz3 := hb3.size
  dsimp only
  have ba := below_alloc w3 (.cells #[.int .i64 p, .int .i64 k, .slice A4 n4 c4, .slice A n c] 35)
  have Y4 := Blk.new w3 35 #[.int .i64 p, .int .i64 k, .slice A4 n4 c4, .slice A n c]
  have X4 := X3.after ba
  have R4 := R3.after ba
  have hi4 := hi.below ba
  have hb5 := hb4.trans (ba.mono hb4.size)
  obtain ⟨x0, x1, x2⟩ := X4.cells3
  have hza := ba.size
  have HLT := Lib.hid (fun b (hb : blk A4 = some b) => (hi.os.lt hb).2)
  go_wp2_with fail
  have hg : w.heap.size + 2 ≤ w3.heap.size := by omega
  have hgw : w3.heap.size + 1 = (w3.alloc (.cells #[.int .i64 p, .int .i64 k, .slice A4 n4 c4, .slice A n c] 35)).heap.size := by simp
  generalize w3.alloc (.cells #[.int .i64 p, .int .i64 k, .slice A4 n4 c4, .slice A n c] 35) = w4 at *
  generalize w3.heap.size = gy at *
  refine (l17Own_any A n c zss w4 (ha.keep hb5) hn hr).mono ?_
  rintro e w5 ⟨A2, n2, c2, rfl, ho, hb6⟩
  dsimp only
  have Y5 := Y4.after hb6
  have R5 := R4.after hb6
  have hi5 := hi4.below hb6
  have hw := hb5.trans (hb6.mono hb5.size)
  have hz6 := hb6.size
  clear hb hof hb1 x0 x1 x2 X4 R4 Y4 R3 X3 R2 X2 R X hi hi4 hco hs
  have Y6 : Blk (w5.setCell ⟨gy, 3, none⟩ (.slice A2 n2 c2)) gy 35 #[.int .i64 p, .int .i64 k, .slice A4 n4 c4, .slice A2 n2 c2] := by
    have := Y5.set_ 3 (.slice A2 n2 c2)
    simpa using this
  have R6 := R5.far (p := ⟨gy, 3, none⟩) (show w.heap.size + 1 ≠ gy by omega) (.slice A2 n2 c2)
  have hi6 : OI (w5.setCell ⟨gy, 3, none⟩ (.slice A2 n2 c2)) (w2.heap.size) 2 A4 n4 c4 (mkP p k) := hi5.kept (grown_set (w := w5) (g := gy) (p := 3) (u := .slice A2 n2 c2)) (by cases hb : blk A4 with | none => exact .inl rfl | some b => exact .inr fun e => by injection e with e; have := HLT.out b hb; omega)
  obtain ⟨y0, y1, y2, y3⟩ := tri_blk Y5
  obtain ⟨t0, t1, t2, t3⟩ := tri_blk Y6
  have fy := Y5.frozen 3
  have hgy : gy < w4.heap.size := by omega
  obtain ⟨mm, hmm⟩ : ∃ mm, mm = w4.heap.size := ⟨_, rfl⟩
  have hlt : ∀ b, blk A4 = some b → b < mm := fun b hb => by have := HLT.out b hb; omega
  have hmz : mm ≤ w5.heap.size := by omega
  rw [← hmm] at ho
  have f0 := (R6).frozen 0
  have cq0 := (R6).cell 0
  have f1 := ((R6).set_ 0 (.int .i64 p)).frozen 1
  have cq1 := ((R6).set_ 0 (.int .i64 p)).cell 1
  have f2 := (((R6).set_ 0 (.int .i64 p)).set_ 1 (.int .i64 k)).frozen 2
  have cq2 := (((R6).set_ 0 (.int .i64 p)).set_ 1 (.int .i64 k)).cell 2
  have f3 := ((((R6).set_ 0 (.int .i64 p)).set_ 1 (.int .i64 k)).set_ 2 (.slice A4 n4 c4)).frozen 3
  have cq3 := ((((R6).set_ 0 (.int .i64 p)).set_ 1 (.int .i64 k)).set_ 2 (.slice A4 n4 c4)).cell 3
  have R9 : Blk (((((w5.setCell ⟨gy, 3, none⟩ (.slice A2 n2 c2)).setCell ⟨w.heap.size + 1, 0, none⟩ (.int .i64 p)).setCell ⟨w.heap.size + 1, 1, none⟩ (.int .i64 k)).setCell ⟨w.heap.size + 1, 2, none⟩ (.slice A4 n4 c4)).setCell ⟨w.heap.size + 1, 3, none⟩ (.slice A2 n2 c2)) (w.heap.size + 1) 35 #[.int .i64 p, .int .i64 k, .slice A4 n4 c4, .slice A2 n2 c2] := by
    have := ((((R6).set_ 0 (.int .i64 p)).set_ 1 (.int .i64 k)).set_ 2 (.slice A4 n4 c4)).set_ 3 (.slice A2 n2 c2)
    simpa using this
  obtain ⟨z0, z1, z2, z3⟩ := tri_blk R9
  go_wp2
  refine bodyPost_ret (v := .tuple #[.agg #[.int .i64 p, .int .i64 k, .slice A4 n4 c4, .slice A2 n2 c2], .int .i64 0]) (by simp [results, Tryz.results38, go_sem, z0, z1, z2, z3]) rfl ⟨A4, n4, c4, A2, n2, c2, mm, rfl, ?_, hlt, ?_, by omega, by simpa using hmz, ?_⟩
  · refine OI.more (B := w2.heap.size) ?_ (by omega)
    iterate 4 (refine OI.setLow ?_ (by simp <;> omega) _)
    exact hi6
  · repeat (refine OR.setLow ?_ (by simp <;> omega) _)
    exact ho
  · repeat (refine Below.setCell ?_ (by simp <;> omega) _)
    exact hw
end Go.Proofs.YtemdjochphehjaaGreat
