/- AutomorphismsOf, both sides. No condition beyond those stated. -/
import Derived.Test.YtjgihhnplckjoaaGreatGX
import Derived.Test.YtjgihhnplckjoaaGreatHA
import Derived.Test.YtjgihhnplckjoaaGreatGY
import Derived.Test.YtjgihhnplckjoaaGreatGC
import Derived.Deep.RegionHeld3
set_option linter.unusedVariables false
set_option linter.unusedSimpArgs false
namespace Go.Proofs.YtjgihhnplckjoaaGreat
open Go.RowKit

/-- rows that read so, and a code -/
def ReadRC (w : World) (zss : List (List Int)) (code : Int) (en : Ending) (w' : World) : Prop := ∃ A n c, en = .returned (.tuple #[.slice A n c, .int .i64 code]) ∧ RR w' A n zss ∧ Below w.heap.size w w'
noncomputable def autC (cs : List Int) (es : List Ed) (b : Int) : Int := if codeP cs es b = 0 ∧ 720 < (runP cs es b.toNat).best.length then 5 else codeP cs es b
noncomputable def autR (cs : List Int) (es : List Ed) (b : Int) : List (List Int) := if codeP cs es b = 0 ∧ ¬ 720 < (runP cs es b.toNat).best.length then setG cmpL (autL (runP cs es b.toNat).best) else []
theorem autC_ne {cs : List Int} {es : List Ed} {b : Int} (h : codeP cs es b ≠ 0) : autC cs es b = codeP cs es b ∧ autR cs es b = [] := by
  rw [autC, autR, if_neg (fun k => h k.1), if_neg (fun k => h k.1)]
  exact ⟨rfl, rfl⟩
theorem autC_big {cs : List Int} {es : List Ed} {b : Int} (h : codeP cs es b = 0) (k : 720 < (runP cs es b.toNat).best.length) : autC cs es b = 5 ∧ autR cs es b = [] := by
  rw [autC, autR, if_pos ⟨h, k⟩, if_neg (fun q => q.2 k)]
  exact ⟨rfl, rfl⟩
theorem autC_ok {cs : List Int} {es : List Ed} {b : Int} (h : codeP cs es b = 0) (k : ¬ 720 < (runP cs es b.toNat).best.length) : autC cs es b = 0 ∧ autR cs es b = setG cmpL (autL (runP cs es b.toNat).best) := by
  rw [autC, autR, if_neg (fun q => k q.2), if_pos ⟨h, k⟩]
  exact ⟨h, rfl⟩
theorem run_perms (cs : List Int) (es : List Ed) (b : Nat) : PermsOf cs.length (runP cs es b).best := fun k hk => by
  have := runP_rows cs es b (row (runP cs es b).best k) (by rw [row_get hk]; exact List.getElem_mem hk)
  exact ⟨this.1.len, this.2⟩
theorem run_nodup {cs : List Int} {es : List Ed} {b : Nat} (h : (runP cs es b).spent = false) : (autL (runP cs es b).best).Nodup := autsP_nodup h
set_option maxRecDepth 100000 in
set_option maxHeartbeats 2000000 in
theorem impl_AutomorphismsOf (A : Option Addr) (n c : Nat) (F : Option Addr) (m d : Nat) (cs : List Int) (es : List Ed) (b : Int) (w : World) (hG : RG w A n F m cs es) (hn : n ≤ 9223372036854775807) (hm : m ≤ 9223372036854775807) :
    Calls Tryz.prog 27 #[.agg #[.slice A n c, .slice F m d], .int .i64 b] w (RetRC w 22 2 (autR cs es b) (autC cs es b)) := by
  have hb1 := below_alloc w (.cells #[.slice A n c, .slice F m d] 31)
  have hx := explored_any' _ A n c F m d cs es b (hG.keep hb1) hn hm
  rcases codeP_cases cs es b with h0 | ⟨h0, h1⟩
  · have HC := Lib.hid h0
    obtain ⟨s1, s2, s3⟩ := codeP_ok h0
    have hbl := runP_len cs es b.toNat
    have hc64 := s2.clen
    have HP := Lib.hid (run_perms cs es b.toNat)
    have HN := Lib.hid (run_nodup s1)
    have HB := Lib.hid (runP_best s1)
    by_cases hk : 720 < (runP cs es b.toNat).best.length
    · have HR := Lib.hid (autC_big h0 hk)
      clear h0 s1 s2
      go_enter Tryz.func27, Tryz.ntmps27
      go_wp2_with fail
      refine hx.mono ?_
      rintro e w2 ⟨hb2, v, rfl, hv⟩
      obtain ⟨w0, rfl, hb0, -, -, -, N, cN, BA, bn, bc, FA, fn, fk, FF, fm, fd, hX⟩ := hv HC.out
      rw [HC.out]
      obtain ⟨vs, hbv, -⟩ := hX.sb.best
      have hbn := hbv.slen
      have c9 := hX.cells.2.2.2.2.2
      have hbn9 : (bn : Int) > 720 := by omega
      clear hbl hk hv hX hbv hbn
      go_wp2
      go_ret2
      exact ⟨_, _, _, by rw [HR.out.1]; rfl, by rw [HR.out.2]; exact OR.nil_ _ _ (by decide), hb1.trans (hb2.mono hb1.size)⟩
    · have HR := Lib.hid (autC_ok h0 hk)
      clear h0 s1 s2
      go_enter Tryz.func27, Tryz.ntmps27
      go_wp2_with fail
      refine hx.mono ?_
      rintro e w2 ⟨hb2, v, rfl, hv⟩
      obtain ⟨w0, rfl, hb0, -, -, -, N, cN, BA, bn, bc, FA, fn, fk, FF, fm, fd, hX⟩ := hv HC.out
      rw [HC.out]
      obtain ⟨vs, hbv, -⟩ := hX.sb.best
      have hbn := hbv.slen
      have c9 := hX.cells.2.2.2.2.2
      have hbn0 : 0 < bn := by rw [← hbn]; exact List.length_pos_iff.2 HB.out
      have hbn9 : ¬ (bn : Int) > 720 := by omega
      have hau := automorphisms_any w2 w0.heap.size BA bn bc _ cs.length c9 hbv.reads hbn0 (by omega) (by omega) HP.out
      have HBN := Lib.hid hbn
      generalize runP cs es b.toNat = s at *
      clear hbl hk hv hX hbv hbn hx
      go_wp2_with fail
      refine hau.mono ?_
      rintro e w3 ⟨A3, n3, c3, rfl, ho3, hb3⟩
      obtain rfl : n3 = bn := by rw [← ho3.len, autL_len, HBN.out]
      have hso := sortOwn_any w2.heap.size A3 n3 c3 _ w3 ho3 (by omega) hbn0 HN.out
      go_wp2_with fail
      refine hso.mono ?_
      rintro e w4 ⟨rfl, ho4, hg4⟩
      have hw2 := hb1.trans (hb2.mono hb1.size)
      have hw3 := hw2.trans (hb3.mono hw2.size)
      obtain ⟨vs3, hv3⟩ := ho3
      have hw4 := below_own hw3 hg4 hw3.size (fun k hk => by have := (hv3.os.lt hk).1; have := hw2.size; omega)
      have ho5 := ho4.more hw2.size
      clear hso hau hb3 hb2 ho4 hg4 hv3
      go_wp2
      go_ret2
      exact ⟨_, _, _, by rw [HR.out.1]; rfl, by rw [HR.out.2]; exact ho5, hw4⟩
  · have HR := Lib.hid (autC_ne h0)
    clear h0
    go_enter Tryz.func27, Tryz.ntmps27
    go_wp2_with fail
    refine hx.mono ?_
    rintro e w2 ⟨hb2, v, rfl, -⟩
    go_wp2
    go_ret2
    exact ⟨_, _, _, by rw [HR.out.1]; rfl, by rw [HR.out.2]; exact OR.nil_ _ _ (by decide), hb1.trans (hb2.mono hb1.size)⟩
set_option maxRecDepth 100000 in
set_option maxHeartbeats 2000000 in
theorem spec_AutomorphismsOf (A : Option Addr) (n c : Nat) (F : Option Addr) (m d : Nat) (cs : List Int) (es : List Ed) (b : Int) (w : World) (hG : RG w A n F m cs es) (hn : n ≤ 9223372036854775807) (hm : m ≤ 9223372036854775807) :
    Calls Tryz.prog 26 #[.agg #[.slice A n c, .slice F m d], .int .i64 b] w (ReadRC w (autR cs es b) (autC cs es b)) := by
  have hb1 := below_alloc w (.cells #[.slice A n c, .slice F m d] 31)
  have hx := l22Start_any _ A n c F m d cs es b (hG.keep hb1) hn hm
  rcases codeP_cases cs es b with h0 | ⟨h0, h1⟩
  · have HC := Lib.hid h0
    obtain ⟨s1, s2, s3⟩ := codeP_ok h0
    have hbl := runP_len cs es b.toNat
    have hc64 := s2.clen
    have HP := Lib.hid (run_perms cs es b.toNat)
    have HB := Lib.hid (runP_best s1)
    by_cases hk : 720 < (runP cs es b.toNat).best.length
    · have HR := Lib.hid (autC_big h0 hk)
      clear h0 s1 s2
      go_enter Tryz.func26, Tryz.ntmps26
      go_wp2_with fail
      refine hx.mono ?_
      rintro e w2 ⟨hb2, v, rfl, hv⟩
      obtain ⟨w0, rfl, hb0, -, -, -, N, cN, BA, bn, bc, FA, fn, fk, FF, fm, fd, hX⟩ := hv HC.out
      rw [HC.out]
      obtain ⟨vs, hbv, -⟩ := hX.sb.best
      have hbn := hbv.slen
      have c9 := hX.cells.2.1
      have hbn9 : (bn : Int) > 720 := by omega
      clear hbl hk hv hX hbv hbn
      go_wp2
      go_ret2
      exact ⟨_, _, _, by rw [HR.out.1]; rfl, by rw [HR.out.2]; exact RS.nil_ _ _ _, hb1.trans (hb2.mono hb1.size)⟩
    · have HR := Lib.hid (autC_ok h0 hk)
      clear h0 s1 s2
      go_enter Tryz.func26, Tryz.ntmps26
      go_wp2_with fail
      refine hx.mono ?_
      rintro e w2 ⟨hb2, v, rfl, hv⟩
      obtain ⟨w0, rfl, hb0, -, -, -, N, cN, BA, bn, bc, FA, fn, fk, FF, fm, fd, hX⟩ := hv HC.out
      rw [HC.out]
      obtain ⟨vs, hbv, -⟩ := hX.sb.best
      have hbn := hbv.slen
      have c9 := hX.cells.2.1
      have hbn0 : 0 < bn := by rw [← hbn]; exact List.length_pos_iff.2 HB.out
      have hbn9 : ¬ (bn : Int) > 720 := by omega
      have hau := l22All_any w2 w0.heap.size BA bn bc _ cs.length c9 hbv.reads hbn0 (by omega) (by omega) HP.out
      generalize runP cs es b.toNat = s at *
      clear hbl hk hv hX hbv hbn hx
      go_wp2_with fail
      refine hau.mono ?_
      rintro e w3 ⟨A3, n3, c3, rfl, ho3, hb3⟩
      have hw2 := hb1.trans (hb2.mono hb1.size)
      have hw3 := hw2.trans (hb3.mono hw2.size)
      clear hau hb3 hb2
      go_wp2
      go_ret2
      exact ⟨_, _, _, by rw [HR.out.1]; rfl, by rw [HR.out.2]; exact ho3, hw3⟩
  · have HR := Lib.hid (autC_ne h0)
    clear h0
    go_enter Tryz.func26, Tryz.ntmps26
    go_wp2_with fail
    refine hx.mono ?_
    rintro e w2 ⟨hb2, v, rfl, -⟩
    go_wp2
    go_ret2
    exact ⟨_, _, _, by rw [HR.out.1]; rfl, by rw [HR.out.2]; exact RS.nil_ _ _ _, hb1.trans (hb2.mono hb1.size)⟩
end Go.Proofs.YtjgihhnplckjoaaGreat
/- The laws on a graph and a budget that return rows of numbers. No condition beyond those stated. -/
namespace Go.Proofs.YtjgihhnplckjoaaGreat
open Go.RowKit

theorem cells_bound {l : List (List Int)} {k : Nat} (h : ∀ r ∈ l, r.length ≤ k) : cells l ≤ l.length * k := by
  induction l with
  | nil => simp [cells]
  | cons r l ih =>
    have h1 := ih fun x hx => h x (List.mem_cons_of_mem _ hx)
    have h2 := h r List.mem_cons_self
    rw [show r :: l = [r] ++ l from rfl, cells_app, cells_one, List.length_append, List.length_singleton, Nat.add_mul]
    omega
theorem dec_selfR (q : List (List Int)) : decide (q = q) = true := by simp
/-- between the calls of a law: the reference's rows, read since w2; the program's, from B on and below D -/
structure LRw (w w2 w' : World) (Z Y : List (List Int)) (B D : Nat) (A2 : Option Addr) (n2 : Nat) (A4 : Option Addr) (n4 c4 : Nat) : Prop where
  bw : Below w.heap.size w w2
  b2 : Below w2.heap.size w2 w'
  r2 : RR w2 A2 n2 Z
  o4 : ORd w' B D 22 2 A4 n4 c4 Y
  hB : w2.heap.size ≤ B
section
variable {w w2 w' w'' : World} {Z Y Y' : List (List Int)} {B D : Nat} {A2 : Option Addr} {n2 : Nat} {A4 : Option Addr} {n4 c4 : Nat}
theorem LRw.below (h : LRw w w2 w' Z Y B D A2 n2 A4 n4 c4) : Below w.heap.size w w' := h.bw.trans (h.b2.mono h.bw.size)
theorem LRw.step (h : LRw w w2 w' Z Y B D A2 n2 A4 n4 c4) (hb : Below w'.heap.size w' w'') : LRw w w2 w'' Z Y B D A2 n2 A4 n4 c4 := ⟨h.bw, h.b2.trans (hb.mono h.b2.size), h.r2, h.o4.below hb, h.hB⟩
theorem LRw.mid {B' D' : Nat} (h : LRw w w2 w' Z Y B D A2 n2 A4 n4 c4) (hm : Mid w' w'' B' D') (h1 : w2.heap.size ≤ B') (ho : D' ≤ B ∨ D ≤ B') : LRw w w2 w'' Z Y B D A2 n2 A4 n4 c4 :=
  ⟨h.bw, h.b2.trans ((Mid.below (B := w2.heap.size) (D := D') ⟨hm.os, hm.tape, hm.output, hm.size, fun k hk hb => hm.blk k hk (hb.elim (fun h => .inl (by omega)) .inr)⟩ h.b2.size)), h.r2, h.o4.mid hm ho, h.hB⟩
theorem LRw.marked (h : LRw w w2 w' Z Y B D A2 n2 A4 n4 c4) (hm : Mid w' w'' B D) (ho : ORd w'' B D 22 2 A4 n4 c4 Y') : LRw w w2 w'' Z Y' B D A2 n2 A4 n4 c4 :=
  ⟨h.bw, h.b2.trans ((Mid.below (B := w2.heap.size) (D := D) ⟨hm.os, hm.tape, hm.output, hm.size, fun k hk hb => hm.blk k hk (hb.elim (fun h' => .inl (by have := h.hB; omega)) .inr)⟩ h.b2.size)), h.r2, ho, h.hB⟩
theorem LRw.rd (h : LRw w w2 w' Z Y B D A2 n2 A4 n4 c4) : RR w' A2 n2 Z := h.r2.keep h.b2
end
set_option maxRecDepth 100000 in
set_option maxHeartbeats 4000000 in
theorem law_AutomorphismsOf_ok (A : Option Addr) (n c : Nat) (F : Option Addr) (m d : Nat) (cs : List Int) (es : List Ed) (b : Int) (w : World) (ha : RG w A n F m cs es) (hs : (n : Int) + m ≤ 1048576) (Z : List (List Int)) (C : Int) (hz : Z.length ≤ 1048576 ∧ cells Z ≤ 1099511627776)
    (hspec : ∀ (A : Option Addr) (n c : Nat) (F : Option Addr) (m d : Nat) (w : World), RG w A n F m cs es → n ≤ 1048576 → m ≤ 1048576 → Calls Tryz.prog 26 #[.agg #[.slice A n c, .slice F m d], .int .i64 b] w (ReadRC w Z C))
    (himpl : ∀ (A : Option Addr) (n c : Nat) (F : Option Addr) (m d : Nat) (w : World), RG w A n F m cs es → n ≤ 1048576 → m ≤ 1048576 → Calls Tryz.prog 27 #[.agg #[.slice A n c, .slice F m d], .int .i64 b] w (RetRC w 22 2 Z C)) :
    Calls Tryz.prog 7 #[.agg #[.slice A n c, .slice F m d], .int .i64 b] w fun e w' => e = .returned (.bool true) ∧ Below w.heap.size w w' := by
  have hla := Lib.hid ha.ri.len
  have hle := Lib.hid ha.re.len
  obtain ⟨bz1, bz2⟩ : n ≤ 1048576 ∧ m ≤ 1048576 := by omega
  obtain ⟨hz1, hz2⟩ := hz
  have E1 := Lib.hid (szF_parts hs)
  have hbp : (0 : Int) ≤ 1048576 - (n + m) := by omega
  generalize hbk : (1048576 - ((n : Int) + m)) = bk at *
  have HS := Lib.hid hspec
  have HI := Lib.hid himpl
  clear hbk hspec himpl
  have p1 := Blk.new w 25 #[.slice A n c, .slice F m d]
  have b1 := below_alloc w (.cells #[.slice A n c, .slice F m d] 25)
  go_enter Tryz.func7, Tryz.ntmps7
  go_wp2_with fail
  refine (szGraph_any 1048576 A n c F m d _ (by omega) (by omega) (by omega) (by omega)).mono ?_
  rintro e w0 ⟨rfl, hb0⟩
  rw [E1.out]
  have q1 := p1.after hb0
  have b0 := below_then b1 hb0
  clear p1 b1 hb0
  obtain ⟨u0, u1⟩ := q1.cells2
  go_wp2_with fail
  refine (toGraph_any A n c F m d cs es _ (ha.keep b0) (by omega) (by omega)).mono ?_
  rintro e w1 ⟨A1, n1, c1, F1, m1, d1, rfl, ho1, hb1⟩
  have k1 : n1 ≤ 1048576 ∧ m1 ≤ 1048576 := by have := ho1.oi.len; have := ho1.oe.len; have := hla.out; have := hle.out; omega
  have q2 := q1.after hb1
  have b1 := below_then b0 hb1
  clear q1 b0 hb1 u0 u1
  go_wp2_with fail
  refine (HS.out A1 n1 c1 F1 m1 d1 _ ho1.reads (by omega) (by omega)).mono ?_
  rintro e w2 ⟨A2, n2, c2, rfl, r2, hb2⟩
  have bw2 := below_then b1 hb2
  have k2 : n2 ≤ 1048576 := by have := r2.len; omega
  have q3 := q2.after hb2
  clear ho1 q2 b1 hb2
  obtain ⟨u0, u1⟩ := q3.cells2
  go_wp2_with fail
  refine (toGraph_any A n c F m d cs es _ (ha.keep bw2) (by omega) (by omega)).mono ?_
  rintro e w3 ⟨A3, n3, c3, F3, m3, d3, rfl, ho3, hb3⟩
  have k3 : n3 ≤ 1048576 ∧ m3 ≤ 1048576 := by have := ho3.oi.len; have := ho3.oe.len; have := hla.out; have := hle.out; omega
  have z3 := hb3.size
  have b6 := below_alloc w3 (.cells #[.slice A3 n3 c3, .slice F3 m3 d3] 31)
  have z6 : (w3.alloc (.cells #[.slice A3 n3 c3, .slice F3 m3 d3] 31)).heap.size = w3.heap.size + 1 := by simp
  have p6 := Blk.new w3 31 #[.slice A3 n3 c3, .slice F3 m3 d3]
  have q4 := (q3.after hb3).after b6
  have od3' := ho3.below b6
  have b3' := below_then hb3 b6
  have hg1 := q3.lt
  have hra := ha.keep (below_then bw2 b3')
  clear ho3 hb3 q3 u0 u1
  obtain ⟨u0, u1⟩ := p6.cells2
  go_wp2_with fail
  refine (HI.out A3 n3 c3 F3 m3 d3 _ od3'.reads (by omega) (by omega)).mono ?_
  rintro e w4 ⟨A4, n4, c4, rfl, ho4, hb4⟩
  have k4 : n4 ≤ 1048576 := by have := ho4.len; omega
  have od4 := ho4.bound
  rw [z6] at od4
  have z4 := hb4.size
  rw [z6] at z4
  have L0 : LRw w w2 w4 Z Z (w3.heap.size + 1) w4.heap.size A2 n2 A4 n4 c4 := ⟨bw2, below_then b3' hb4, r2, od4, by omega⟩
  have o3 := od3'.below hb4
  have M0 : GSt w.heap.size w3.heap.size A F A3 F3 n c m d n3 c3 m3 d3 cs es w4 := ⟨q4.after hb4, p6.after hb4, hra.keep hb4, o3.reads⟩
  clear ho4 hb4 od4 od3' b3' bw2 r2 q4 p6 b6 z6 u0 u1 hra
  generalize w3.heap.size = s3 at *
  go_wp2_with fail
  refine (eqInt64SS_any A4 A2 n4 n2 _ _ Z Z _ L0.o4.reads L0.rd (by omega) (by omega)).mono ?_
  rintro e w5 ⟨rfl, hd5⟩
  rw [dec_selfR Z]
  have L1 := L0.step hd5.below
  have M1 := M0.step hd5.below
  have o5 := o3.below hd5.below
  have bb5 := L1.below
  clear hd5 L0 M0 o3
  go_wp2_with fail
  go_region_held3 (fun w' => (GSt w.heap.size s3 A F A3 F3 n c m d n3 c3 m3 d3 cs es w' ∧ Below w.heap.size w w') ∧ w'.cell? ⟨w.heap.size, 0, none⟩ = some (.slice A n c) ∧ w'.cell? ⟨w.heap.size, 1, none⟩ = some (.slice F m d) ∧ w'.cell? ⟨s3, 0, none⟩ = some (.slice A3 n3 c3) ∧ w'.cell? ⟨s3, 1, none⟩ = some (.slice F3 m3 d3))
    (first | exact (M1.step (below_drewn _ 1)).full (bb5.trans ((below_drewn _ 1).mono bb5.size)) | exact (GSt.step (And.left (And.left (by assumption))) (by assumption)).full (below_then (And.right (And.left (by assumption))) (by assumption)))
    (first
      | (go_at_call 12; (with_reducible refine (toGraph_any A n c F m d cs es _ ?_ (by omega) (by omega)).mono ?_); (exact ha.keep (And.right (And.left (by assumption)))); rintro e w6 ⟨A6, n6, c6, F6, m6, d6, rfl, ho6, hb6⟩)
      | (go_at_call 14; (with_reducible refine (eqGraph_same A3 F3 n3 c3 m3 d3 A6 F6 n6 c6 m6 d6 cs es _ ?_ ?_ ?_ ?_ ?_).mono ?_); (exact GSt.r3 (And.left (And.left (by assumption)))); (exact ho6.reads); (omega); (omega); (have := ho6.oi.len; have := hla.out; omega); rintro e w7 ⟨rfl, hb7⟩))
  have hh7 : (GSt w.heap.size s3 A F A3 F3 n c m d n3 c3 m3 d3 cs es w7 ∧ Below w.heap.size w w7) := And.left (by assumption)
  have hb67 : Below w5.heap.size w5 w7 := ((below_drewn w5 1).trans (hb6.mono (Nat.le_refl _))).trans (hb7.mono ((below_drewn w5 1).trans (hb6.mono (Nat.le_refl _))).size)
  have L3 := L1.step hb67
  have M3 := hh7.1
  have o7 := o5.below hb67
  clear L1 M1 o5 hb6 hb7 hb67 hh7 ho6 bb5
  obtain ⟨u0, u1⟩ := M3.p6.cells2
  go_wp2_with fail
  refine (markGraph_any _ _ A3 F3 n3 c3 m3 d3 1 cs es _ o7 (by omega)).mono ?_
  rintro e w8 ⟨rfl, _, hm8⟩
  have L4 := L3.mid hm8 (by omega) (by omega)
  have M4 := M3.p1.mid hm8 (by omega)
  clear L3 o7 hm8 M3 u0 u1
  go_wp2_with fail
  refine (eqInt64SS_any A4 A2 n4 n2 _ _ Z Z _ L4.o4.reads L4.rd (by omega) (by omega)).mono ?_
  rintro e w9 ⟨rfl, hd9⟩
  rw [dec_selfR Z]
  have L5 := L4.step hd9.below
  have M5 := M4.after hd9.below
  clear hd9 L4 M4
  go_wp2_with fail
  refine (markInt64SS_any _ _ _ _ A4 n4 c4 1 Z _ L5.o4 (by omega) (by omega)).mono ?_
  rintro e w10 ⟨rfl, ho10, hm10⟩
  have L6 := L5.marked hm10 ho10
  have M6 := M5.mid hm10 (by omega)
  clear L5 ho10 hm10 M5
  go_wp2_with fail
  refine (heldInt64SS_any A4 n4 c4 1 Z _ L6.o4.reads (by omega) (by omega)).mono ?_
  rintro e w11 ⟨rfl, rfl⟩
  obtain ⟨u0, u1⟩ := M6.cells2
  go_wp2_with fail
  refine (toGraph_any A n c F m d cs es _ (ha.keep L6.below) (by omega) (by omega)).mono ?_
  rintro e w12 ⟨A12, n12, c12, F12, m12, d12, rfl, ho12, hb12⟩
  have k12 : n12 ≤ 1048576 ∧ m12 ≤ 1048576 := by have := ho12.oi.len; have := ho12.oe.len; have := hla.out; have := hle.out; omega
  have L8 := L6.step hb12
  clear L6 hb12 M6 u0 u1
  go_wp2_with fail
  refine (HI.out A12 n12 c12 F12 m12 d12 _ ho12.reads (by omega) (by omega)).mono ?_
  rintro e w13 ⟨A13, n13, c13, rfl, ho13, hb13⟩
  have k13 : n13 ≤ 1048576 := by have := ho13.len; omega
  have L9 := L8.step hb13
  have r13 := ho13.reads
  clear L8 hb13 ho13 ho12
  go_wp2_with fail
  refine (eqInt64SS_any A13 A2 n13 n2 _ _ Z Z _ r13 L9.rd (by omega) (by omega)).mono ?_
  rintro e w14 ⟨rfl, hd14⟩
  rw [dec_selfR Z]
  have L10 := L9.step hd14.below
  clear L9 hd14 r13
  go_wp2_with fail
  refine (heldInt64SS_any A4 n4 c4 1 Z _ L10.o4.reads (by omega) (by omega)).mono ?_
  rintro e w15 ⟨rfl, rfl⟩
  go_wp2
  go_ret
  exact ⟨rfl, L10.below⟩
set_option maxHeartbeats 1000000 in
theorem law_AutomorphismsOf_big (A : Option Addr) (n c : Nat) (F : Option Addr) (m d : Nat) (cs : List Int) (es : List Ed) (b : Int) (w : World) (ha : RG w A n F m cs es) (hn : n ≤ 9223372036854775807) (hm : m ≤ 9223372036854775807) (hs : ¬ (n : Int) + m ≤ 1048576) :
    Calls Tryz.prog 7 #[.agg #[.slice A n c, .slice F m d], .int .i64 b] w fun e w' => e = .returned (.bool true) ∧ Below w.heap.size w w' := by
  have E1 := Lib.hid (show szF 1048576 ((n : Int) + m) = -1 by simp [szF, hs])
  clear hs
  have b1 := below_alloc w (.cells #[.slice A n c, .slice F m d] 25)
  go_enter Tryz.func7, Tryz.ntmps7
  go_wp2_with fail
  refine (szGraph_any 1048576 A n c F m d _ (by omega) (by omega) (by omega) (by omega)).mono ?_
  rintro e w0 ⟨rfl, hb0⟩
  rw [E1.out]
  go_wp2
  go_ret
  exact ⟨rfl, below_then b1 hb0⟩
set_option maxRecDepth 100000 in
set_option maxHeartbeats 4000000 in
theorem law_VertexOrbits_ok (A : Option Addr) (n c : Nat) (F : Option Addr) (m d : Nat) (cs : List Int) (es : List Ed) (b : Int) (w : World) (ha : RG w A n F m cs es) (hs : (n : Int) + m ≤ 1048576) (Z : List (List Int)) (C : Int) (hz : Z.length ≤ 1048576 ∧ cells Z ≤ 1099511627776)
    (hspec : ∀ (A : Option Addr) (n c : Nat) (F : Option Addr) (m d : Nat) (w : World), RG w A n F m cs es → n ≤ 1048576 → m ≤ 1048576 → Calls Tryz.prog 33 #[.agg #[.slice A n c, .slice F m d], .int .i64 b] w (ReadRC w Z C))
    (himpl : ∀ (A : Option Addr) (n c : Nat) (F : Option Addr) (m d : Nat) (w : World), RG w A n F m cs es → n ≤ 1048576 → m ≤ 1048576 → Calls Tryz.prog 34 #[.agg #[.slice A n c, .slice F m d], .int .i64 b] w (RetRC w 22 2 Z C)) :
    Calls Tryz.prog 9 #[.agg #[.slice A n c, .slice F m d], .int .i64 b] w fun e w' => e = .returned (.bool true) ∧ Below w.heap.size w w' := by
  have hla := Lib.hid ha.ri.len
  have hle := Lib.hid ha.re.len
  obtain ⟨bz1, bz2⟩ : n ≤ 1048576 ∧ m ≤ 1048576 := by omega
  obtain ⟨hz1, hz2⟩ := hz
  have E1 := Lib.hid (szF_parts hs)
  have hbp : (0 : Int) ≤ 1048576 - (n + m) := by omega
  generalize hbk : (1048576 - ((n : Int) + m)) = bk at *
  have HS := Lib.hid hspec
  have HI := Lib.hid himpl
  clear hbk hspec himpl
  have p1 := Blk.new w 25 #[.slice A n c, .slice F m d]
  have b1 := below_alloc w (.cells #[.slice A n c, .slice F m d] 25)
  go_enter Tryz.func9, Tryz.ntmps9
  go_wp2_with fail
  refine (szGraph_any 1048576 A n c F m d _ (by omega) (by omega) (by omega) (by omega)).mono ?_
  rintro e w0 ⟨rfl, hb0⟩
  rw [E1.out]
  have q1 := p1.after hb0
  have b0 := below_then b1 hb0
  clear p1 b1 hb0
  obtain ⟨u0, u1⟩ := q1.cells2
  go_wp2_with fail
  refine (toGraph_any A n c F m d cs es _ (ha.keep b0) (by omega) (by omega)).mono ?_
  rintro e w1 ⟨A1, n1, c1, F1, m1, d1, rfl, ho1, hb1⟩
  have k1 : n1 ≤ 1048576 ∧ m1 ≤ 1048576 := by have := ho1.oi.len; have := ho1.oe.len; have := hla.out; have := hle.out; omega
  have q2 := q1.after hb1
  have b1 := below_then b0 hb1
  clear q1 b0 hb1 u0 u1
  go_wp2_with fail
  refine (HS.out A1 n1 c1 F1 m1 d1 _ ho1.reads (by omega) (by omega)).mono ?_
  rintro e w2 ⟨A2, n2, c2, rfl, r2, hb2⟩
  have bw2 := below_then b1 hb2
  have k2 : n2 ≤ 1048576 := by have := r2.len; omega
  have q3 := q2.after hb2
  clear ho1 q2 b1 hb2
  obtain ⟨u0, u1⟩ := q3.cells2
  go_wp2_with fail
  refine (toGraph_any A n c F m d cs es _ (ha.keep bw2) (by omega) (by omega)).mono ?_
  rintro e w3 ⟨A3, n3, c3, F3, m3, d3, rfl, ho3, hb3⟩
  have k3 : n3 ≤ 1048576 ∧ m3 ≤ 1048576 := by have := ho3.oi.len; have := ho3.oe.len; have := hla.out; have := hle.out; omega
  have z3 := hb3.size
  have b6 := below_alloc w3 (.cells #[.slice A3 n3 c3, .slice F3 m3 d3] 31)
  have z6 : (w3.alloc (.cells #[.slice A3 n3 c3, .slice F3 m3 d3] 31)).heap.size = w3.heap.size + 1 := by simp
  have p6 := Blk.new w3 31 #[.slice A3 n3 c3, .slice F3 m3 d3]
  have q4 := (q3.after hb3).after b6
  have od3' := ho3.below b6
  have b3' := below_then hb3 b6
  have hg1 := q3.lt
  have hra := ha.keep (below_then bw2 b3')
  clear ho3 hb3 q3 u0 u1
  obtain ⟨u0, u1⟩ := p6.cells2
  go_wp2_with fail
  refine (HI.out A3 n3 c3 F3 m3 d3 _ od3'.reads (by omega) (by omega)).mono ?_
  rintro e w4 ⟨A4, n4, c4, rfl, ho4, hb4⟩
  have k4 : n4 ≤ 1048576 := by have := ho4.len; omega
  have od4 := ho4.bound
  rw [z6] at od4
  have z4 := hb4.size
  rw [z6] at z4
  have L0 : LRw w w2 w4 Z Z (w3.heap.size + 1) w4.heap.size A2 n2 A4 n4 c4 := ⟨bw2, below_then b3' hb4, r2, od4, by omega⟩
  have o3 := od3'.below hb4
  have M0 : GSt w.heap.size w3.heap.size A F A3 F3 n c m d n3 c3 m3 d3 cs es w4 := ⟨q4.after hb4, p6.after hb4, hra.keep hb4, o3.reads⟩
  clear ho4 hb4 od4 od3' b3' bw2 r2 q4 p6 b6 z6 u0 u1 hra
  generalize w3.heap.size = s3 at *
  go_wp2_with fail
  refine (eqInt64SS_any A4 A2 n4 n2 _ _ Z Z _ L0.o4.reads L0.rd (by omega) (by omega)).mono ?_
  rintro e w5 ⟨rfl, hd5⟩
  rw [dec_selfR Z]
  have L1 := L0.step hd5.below
  have M1 := M0.step hd5.below
  have o5 := o3.below hd5.below
  have bb5 := L1.below
  clear hd5 L0 M0 o3
  go_wp2_with fail
  go_region_held3 (fun w' => (GSt w.heap.size s3 A F A3 F3 n c m d n3 c3 m3 d3 cs es w' ∧ Below w.heap.size w w') ∧ w'.cell? ⟨w.heap.size, 0, none⟩ = some (.slice A n c) ∧ w'.cell? ⟨w.heap.size, 1, none⟩ = some (.slice F m d) ∧ w'.cell? ⟨s3, 0, none⟩ = some (.slice A3 n3 c3) ∧ w'.cell? ⟨s3, 1, none⟩ = some (.slice F3 m3 d3))
    (first | exact (M1.step (below_drewn _ 1)).full (bb5.trans ((below_drewn _ 1).mono bb5.size)) | exact (GSt.step (And.left (And.left (by assumption))) (by assumption)).full (below_then (And.right (And.left (by assumption))) (by assumption)))
    (first
      | (go_at_call 12; (with_reducible refine (toGraph_any A n c F m d cs es _ ?_ (by omega) (by omega)).mono ?_); (exact ha.keep (And.right (And.left (by assumption)))); rintro e w6 ⟨A6, n6, c6, F6, m6, d6, rfl, ho6, hb6⟩)
      | (go_at_call 14; (with_reducible refine (eqGraph_same A3 F3 n3 c3 m3 d3 A6 F6 n6 c6 m6 d6 cs es _ ?_ ?_ ?_ ?_ ?_).mono ?_); (exact GSt.r3 (And.left (And.left (by assumption)))); (exact ho6.reads); (omega); (omega); (have := ho6.oi.len; have := hla.out; omega); rintro e w7 ⟨rfl, hb7⟩))
  have hh7 : (GSt w.heap.size s3 A F A3 F3 n c m d n3 c3 m3 d3 cs es w7 ∧ Below w.heap.size w w7) := And.left (by assumption)
  have hb67 : Below w5.heap.size w5 w7 := ((below_drewn w5 1).trans (hb6.mono (Nat.le_refl _))).trans (hb7.mono ((below_drewn w5 1).trans (hb6.mono (Nat.le_refl _))).size)
  have L3 := L1.step hb67
  have M3 := hh7.1
  have o7 := o5.below hb67
  clear L1 M1 o5 hb6 hb7 hb67 hh7 ho6 bb5
  obtain ⟨u0, u1⟩ := M3.p6.cells2
  go_wp2_with fail
  refine (markGraph_any _ _ A3 F3 n3 c3 m3 d3 1 cs es _ o7 (by omega)).mono ?_
  rintro e w8 ⟨rfl, _, hm8⟩
  have L4 := L3.mid hm8 (by omega) (by omega)
  have M4 := M3.p1.mid hm8 (by omega)
  clear L3 o7 hm8 M3 u0 u1
  go_wp2_with fail
  refine (eqInt64SS_any A4 A2 n4 n2 _ _ Z Z _ L4.o4.reads L4.rd (by omega) (by omega)).mono ?_
  rintro e w9 ⟨rfl, hd9⟩
  rw [dec_selfR Z]
  have L5 := L4.step hd9.below
  have M5 := M4.after hd9.below
  clear hd9 L4 M4
  go_wp2_with fail
  refine (markInt64SS_any _ _ _ _ A4 n4 c4 1 Z _ L5.o4 (by omega) (by omega)).mono ?_
  rintro e w10 ⟨rfl, ho10, hm10⟩
  have L6 := L5.marked hm10 ho10
  have M6 := M5.mid hm10 (by omega)
  clear L5 ho10 hm10 M5
  go_wp2_with fail
  refine (heldInt64SS_any A4 n4 c4 1 Z _ L6.o4.reads (by omega) (by omega)).mono ?_
  rintro e w11 ⟨rfl, rfl⟩
  obtain ⟨u0, u1⟩ := M6.cells2
  go_wp2_with fail
  refine (toGraph_any A n c F m d cs es _ (ha.keep L6.below) (by omega) (by omega)).mono ?_
  rintro e w12 ⟨A12, n12, c12, F12, m12, d12, rfl, ho12, hb12⟩
  have k12 : n12 ≤ 1048576 ∧ m12 ≤ 1048576 := by have := ho12.oi.len; have := ho12.oe.len; have := hla.out; have := hle.out; omega
  have L8 := L6.step hb12
  clear L6 hb12 M6 u0 u1
  go_wp2_with fail
  refine (HI.out A12 n12 c12 F12 m12 d12 _ ho12.reads (by omega) (by omega)).mono ?_
  rintro e w13 ⟨A13, n13, c13, rfl, ho13, hb13⟩
  have k13 : n13 ≤ 1048576 := by have := ho13.len; omega
  have L9 := L8.step hb13
  have r13 := ho13.reads
  clear L8 hb13 ho13 ho12
  go_wp2_with fail
  refine (eqInt64SS_any A13 A2 n13 n2 _ _ Z Z _ r13 L9.rd (by omega) (by omega)).mono ?_
  rintro e w14 ⟨rfl, hd14⟩
  rw [dec_selfR Z]
  have L10 := L9.step hd14.below
  clear L9 hd14 r13
  go_wp2_with fail
  refine (heldInt64SS_any A4 n4 c4 1 Z _ L10.o4.reads (by omega) (by omega)).mono ?_
  rintro e w15 ⟨rfl, rfl⟩
  go_wp2
  go_ret
  exact ⟨rfl, L10.below⟩
set_option maxHeartbeats 1000000 in
theorem law_VertexOrbits_big (A : Option Addr) (n c : Nat) (F : Option Addr) (m d : Nat) (cs : List Int) (es : List Ed) (b : Int) (w : World) (ha : RG w A n F m cs es) (hn : n ≤ 9223372036854775807) (hm : m ≤ 9223372036854775807) (hs : ¬ (n : Int) + m ≤ 1048576) :
    Calls Tryz.prog 9 #[.agg #[.slice A n c, .slice F m d], .int .i64 b] w fun e w' => e = .returned (.bool true) ∧ Below w.heap.size w w' := by
  have E1 := Lib.hid (show szF 1048576 ((n : Int) + m) = -1 by simp [szF, hs])
  clear hs
  have b1 := below_alloc w (.cells #[.slice A n c, .slice F m d] 25)
  go_enter Tryz.func9, Tryz.ntmps9
  go_wp2_with fail
  refine (szGraph_any 1048576 A n c F m d _ (by omega) (by omega) (by omega) (by omega)).mono ?_
  rintro e w0 ⟨rfl, hb0⟩
  rw [E1.out]
  go_wp2
  go_ret
  exact ⟨rfl, below_then b1 hb0⟩
theorem autR_len (cs : List Int) (es : List Ed) (b : Int) : (autR cs es b).length ≤ 1048576 ∧ cells (autR cs es b) ≤ 1099511627776 := by
  by_cases h : codeP cs es b = 0
  · by_cases k : 720 < (runP cs es b.toNat).best.length
    · rw [(autC_big h k).2]; simp [cells]
    · rw [(autC_ok h k).2]
      obtain ⟨h1, h2, h3⟩ := codeP_ok h
      have hl := setG_len (c := cmpL) (autL (runP cs es b.toNat).best)
      rw [autL_len] at hl
      have hc := h2.clen
      have hr : ∀ r ∈ setG cmpL (autL (runP cs es b.toNat).best), r.length ≤ 64 := fun r hr => by
        have := (setG_mem cmpL_ord _ _).1 hr
        unfold autL at this
        obtain ⟨p, hp, rfl⟩ := List.mem_map.1 this
        rw [thenP_len, (runP_rows cs es b.toNat p hp).1.len]
        exact hc
      have := cells_bound hr
      omega
  · rw [(autC_ne h).2]; simp [cells]
theorem law_AutomorphismsOf (A : Option Addr) (n c : Nat) (F : Option Addr) (m d : Nat) (cs : List Int) (es : List Ed) (b : Int) (w : World) (ha : RG w A n F m cs es) (hn : n ≤ 9223372036854775807) (hm : m ≤ 9223372036854775807) (_ : I64 b) :
    Calls Tryz.prog 7 #[.agg #[.slice A n c, .slice F m d], .int .i64 b] w fun e w' => e = .returned (.bool true) ∧ Below w.heap.size w w' := by
  by_cases hs : (n : Int) + m ≤ 1048576
  · exact law_AutomorphismsOf_ok A n c F m d cs es b w ha hs (autR cs es b) (autC cs es b) (autR_len cs es b)
      (fun A n c F m d w h1 h2 h3 => spec_AutomorphismsOf A n c F m d cs es b w h1 (by omega) (by omega))
      (fun A n c F m d w h1 h2 h3 => impl_AutomorphismsOf A n c F m d cs es b w h1 (by omega) (by omega))
  · exact law_AutomorphismsOf_big A n c F m d cs es b w ha hn hm hs
end Go.Proofs.YtjgihhnplckjoaaGreat
