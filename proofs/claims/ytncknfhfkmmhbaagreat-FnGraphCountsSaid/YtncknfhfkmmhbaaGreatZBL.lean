/- (*impl.explorer).leaf. No condition beyond those stated. -/
import Derived.Test.YtncknfhfkmmhbaaGreatZBJ
set_option linter.unusedVariables false
set_option linter.unusedSimpArgs false
namespace Go.Proofs.YtncknfhfkmmhbaaGreat
open Go.RowKit

def xcells (A : Option Addr) (n c : Nat) (F : Option Addr) (m d : Nat) (N : Option Addr) (nn cN : Nat) (BA : Option Addr) (bn bc : Nat) (FA : Option Addr) (fn fk : Nat) (FF : Option Addr) (fm fd : Nat) (s : St) : Array Value :=
  #[.int .i64 (s.left : Int), .bool s.spent, .slice A n c, .slice F m d, .slice N nn cN, .int .i64 (s.nodes : Int), .int .i64 (s.leaves : Int), .slice FA fn fk, .slice FF fm fd, .slice BA bn bc]
/-- the whole state: its block, and what it leads to -/
structure XS (w0 w : World) (A : Option Addr) (n c : Nat) (F : Option Addr) (m d : Nat) (N : Option Addr) (nn cN : Nat) (BA : Option Addr) (bn bc : Nat) (FA : Option Addr) (fn fk : Nat) (FF : Option Addr) (fm fd : Nat) (s : St) : Prop where
  x : Blk w w0.heap.size 57 (xcells A n c F m d N nn cN BA bn bc FA fn fk FF fm fd s)
  sb : SB w0 w BA bn bc FA fn fk FF fm fd s
section
variable {w0 w w' : World} {A : Option Addr} {n c : Nat} {F : Option Addr} {m d : Nat} {N : Option Addr} {nn cN : Nat} {BA : Option Addr} {bn bc : Nat} {FA : Option Addr} {fn fk : Nat} {FF : Option Addr} {fm fd : Nat} {s s' : St}
theorem XS.step (h : XS w0 w A n c F m d N nn cN BA bn bc FA fn fk FF fm fd s) (hb : Below w.heap.size w w') : XS w0 w' A n c F m d N nn cN BA bn bc FA fn fk FF fm fd s := ⟨h.x.after hb, h.sb.step hb⟩
theorem XS.cells (h : XS w0 w A n c F m d N nn cN BA bn bc FA fn fk FF fm fd s) :
    (w.cell? ⟨w0.heap.size, 0, none⟩ = some (.int .i64 (s.left : Int)) ∧ w.cell? ⟨w0.heap.size, 1, none⟩ = some (.bool s.spent) ∧ w.cell? ⟨w0.heap.size, 2, none⟩ = some (.slice A n c) ∧ w.cell? ⟨w0.heap.size, 3, none⟩ = some (.slice F m d) ∧ w.cell? ⟨w0.heap.size, 4, none⟩ = some (.slice N nn cN)) ∧
    w.cell? ⟨w0.heap.size, 5, none⟩ = some (.int .i64 (s.nodes : Int)) ∧ w.cell? ⟨w0.heap.size, 6, none⟩ = some (.int .i64 (s.leaves : Int)) ∧ w.cell? ⟨w0.heap.size, 7, none⟩ = some (.slice FA fn fk) ∧ w.cell? ⟨w0.heap.size, 8, none⟩ = some (.slice FF fm fd) ∧ w.cell? ⟨w0.heap.size, 9, none⟩ = some (.slice BA bn bc) :=
  ⟨⟨h.x.cell 0, h.x.cell 1, h.x.cell 2, h.x.cell 3, h.x.cell 4⟩, h.x.cell 5, h.x.cell 6, h.x.cell 7, h.x.cell 8, h.x.cell 9⟩
theorem XS.frozen (h : XS w0 w A n c F m d N nn cN BA bn bc FA fn fk FF fm fd s) (i : Nat) : w.frozen? ⟨w0.heap.size, i, none⟩ = false := h.x.frozen i
theorem XS.leaves (h : XS w0 w A n c F m d N nn cN BA bn bc FA fn fk FF fm fd s) {u : Int} (k : Nat) (hu : u = (k : Int)) : XS w0 (w.setCell ⟨w0.heap.size, 6, none⟩ (.int .i64 u)) A n c F m d N nn cN BA bn bc FA fn fk FF fm fd { s with leaves := k } :=
  ⟨by rw [hu]; exact h.x.set_ 6 _, (h.sb.set 6 _).re rfl rfl rfl⟩
theorem XS.nodes (h : XS w0 w A n c F m d N nn cN BA bn bc FA fn fk FF fm fd s) {u : Int} (k : Nat) (hu : u = (k : Int)) : XS w0 (w.setCell ⟨w0.heap.size, 5, none⟩ (.int .i64 u)) A n c F m d N nn cN BA bn bc FA fn fk FF fm fd { s with nodes := k } :=
  ⟨by rw [hu]; exact h.x.set_ 5 _, (h.sb.set 5 _).re rfl rfl rfl⟩
theorem XS.left_ (h : XS w0 w A n c F m d N nn cN BA bn bc FA fn fk FF fm fd s) {u : Int} (k : Nat) (hu : u = (k : Int)) : XS w0 (w.setCell ⟨w0.heap.size, 0, none⟩ (.int .i64 u)) A n c F m d N nn cN BA bn bc FA fn fk FF fm fd { s with left := k } :=
  ⟨by rw [hu]; exact h.x.set_ 0 _, (h.sb.set 0 _).re rfl rfl rfl⟩
theorem XS.spent_ (h : XS w0 w A n c F m d N nn cN BA bn bc FA fn fk FF fm fd s) (b : Bool) : XS w0 (w.setCell ⟨w0.heap.size, 1, none⟩ (.bool b)) A n c F m d N nn cN BA bn bc FA fn fk FF fm fd { s with spent := b } :=
  ⟨h.x.set_ 1 _, (h.sb.set 1 _).re rfl rfl rfl⟩
/-- another form, and none found yet -/
theorem XS.form (h : XS w0 w A n c F m d N nn cN BA bn bc FA fn fk FF fm fd s) {A1 : Option Addr} {n1 c1 : Nat} {F1 : Option Addr} {m1 d1 : Nat} {cs : List Int} {es : List Ed} (h1 : OI w (w0.heap.size + 1) 2 A1 n1 c1 cs) (h2 : OE w (w0.heap.size + 1) 48 F1 m1 d1 es) (h3 : cs.length ≤ 4096) (h4 : es.length ≤ 1048576) :
    XS w0 (((w.setCell ⟨w0.heap.size, 7, none⟩ (.slice A1 n1 c1)).setCell ⟨w0.heap.size, 8, none⟩ (.slice F1 m1 d1)).setCell ⟨w0.heap.size, 9, none⟩ (.slice none 0 0)) A n c F m d N nn cN none 0 0 A1 n1 c1 F1 m1 d1 { s with fc := cs, fe := es, best := [] } := by
  have hlt : w0.heap.size < w0.heap.size + 1 := Nat.lt_succ_self _
  have k := ((h.sb.set 7 (.slice A1 n1 c1)).set 8 (.slice F1 m1 d1)).set 9 (.slice none 0 0)
  refine ⟨?_, ⟨k.b, k.lt, ⟨[], BV.nil_ _ _, Afar.nil_ _⟩, ?_, ?_, h3, h4⟩⟩
  · have := ((h.x.set_ 7 (.slice A1 n1 c1)).set_ 8 (.slice F1 m1 d1)).set_ 9 (.slice none 0 0)
    exact this
  · exact ((h1.setLow hlt _).setLow hlt _).setLow hlt _
  · exact ((h2.setLow hlt _).setLow hlt _).setLow hlt _
/-- one more found -/
theorem XS.push (h : XS w0 w A n c F m d N nn cN BA bn bc FA fn fk FF fm fd s) {v : Sl} {z : List Int} (ho : OI w (w0.heap.size + 1) 2 v.1 v.2.1 v.2.2 z) {vs : List Sl} (hv : BV w (w0.heap.size + 1) BA bn bc vs s.best) (ha : Afar vs FA) (hva : blk v.1 = none ∨ blk v.1 ≠ blk FA) {A' : Option Addr} {c' : Nat} (hg : w.grownBy w' (blk BA)) (hos : OS w' (w0.heap.size + 1) 33 1 A' (bn + 1) c' (vs.map slv ++ [.slice v.1 v.2.1 v.2.2])) :
    XS w0 (w'.setCell ⟨w0.heap.size, 9, none⟩ (.slice A' (bn + 1) c')) A n c F m d N nn cN A' (bn + 1) c' FA fn fk FF fm fd { s with best := s.best ++ [z] } := by
  have hlt : w0.heap.size < w0.heap.size + 1 := Nat.lt_succ_self _
  have hx := h.x.grown hg (OS.typed' hv.os h.x (by decide))
  have hb := below_own h.sb.b hg h.sb.b.size (fun b hb => by have := (hv.os.lt hb).1; omega)
  have hb' := hv.push ho hg hos
  refine ⟨?_, ⟨Below.setCell hb (p := ⟨w0.heap.size, 9, none⟩) (Nat.le_refl _) _, ?_, ⟨_, hb'.setLow hlt _, ha.push hva⟩, (h.sb.fc.kept hg (OS.typed h.sb.fc.os hv.os (by decide))).setLow hlt _, (h.sb.fe.kept hg (OS.typed h.sb.fe.os hv.os (by decide))).setLow hlt _, h.sb.lc, h.sb.le_⟩⟩
  · have := hx.set_ 9 (.slice A' (bn + 1) c')
    exact this
  · have := hg.size
    have := h.sb.lt
    simp [World.setCell]
    omega
end
section
variable {ops : Array Oper} {rest : List Oper} {o : Oper} {a : Act} {Q : Exit → Act → World → Prop}
theorem app_best (w : World) (hgd : o.guard = none) (s x : Operand) (ho : o.op = .call { callee := .builtin .append, args := #[s, x], argTypes := #[46, 46] })
    (B : Nat) (A : Option Addr) (n c : Nat) (vs : List Sl) (hs : a.eval s = .slice A n c) (hown : OS w B 33 1 A n c (vs.map slv)) (v : Sl)
    (g : Nat) (hx : a.eval x = .slice (some ⟨g, 0, none⟩) 1 1) (hgx : g = w.heap.size) (hbig : n + 1 ≤ 2199023255552) (hB : B ≤ w.heap.size)
    (h : ∀ A' c' w', OS w' B 33 1 A' (n + 1) c' (vs.map slv ++ [.slice v.1 v.2.1 v.2.2]) → w.grownBy w' (blk A) → Fresh A' A w.heap.size → wpList Tryz.prog ops Q rest (a.put o.dst (.slice A' (n + 1) c')) w') :
    wpList Tryz.prog ops Q (o :: rest) a (w.alloc (.cells #[.slice v.1 v.2.1 v.2.2] 33)) :=
  wpList_app1' w hgd s x 46 ho 33 (.slice none 0 0) 24 Tryz.underlying46 ints_info rfl (by omega) B A n c (vs.map slv) hs hown (.slice v.1 v.2.1 v.2.2) g hx hgx rfl hbig hB
    fun A' c' w' h1 h2 h3 => h A' c' w' h1 h2 (h3.elim .inl fun h => .inr (.inr h))
end
theorem leafP_neg {cs : List Int} {es : List Ed} {s : St} {p : List Int} (h : leafC cs es s p < 0) : leafP cs es s p = { s with leaves := s.leaves + 1, fc := relC cs p, fe := relE es p, best := [p] } := by
  simp only [leafP, if_pos h]
theorem leafP_same {cs : List Int} {es : List Ed} {s : St} {p : List Int} (h : leafC cs es s p = 0) : leafP cs es s p = { s with leaves := s.leaves + 1, best := s.best ++ [p] } := by
  simp only [leafP, h]
  simp
theorem leafP_pos {cs : List Int} {es : List Ed} {s : St} {p : List Int} (h1 : ¬ leafC cs es s p < 0) (h2 : leafC cs es s p ≠ 0) : leafP cs es s p = { s with leaves := s.leaves + 1 } := by
  simp only [leafP, if_neg h1, if_neg h2]
/-- what a search leaves behind -/
def RetX (w0 w : World) (A : Option Addr) (n c : Nat) (F : Option Addr) (m d : Nat) (N : Option Addr) (nn cN : Nat) (BA : Option Addr) (s : St) (e : Ending) (w' : World) : Prop :=
  e = .returned (.tuple #[]) ∧ ∃ BA' bn bc FA fn fk FF fm fd, XS w0 w' A n c F m d N nn cN BA' bn bc FA fn fk FF fm fd s ∧ Kp w0.heap.size (blk BA) w w' ∧ Fresh BA' BA w.heap.size
set_option maxRecDepth 100000 in
set_option maxHeartbeats 4000000 in
theorem leaf_any (w0 w : World) (A : Option Addr) (n c : Nat) (F : Option Addr) (m d : Nat) (cs : List Int) (es : List Ed) (N : Option Addr) (nn cN : Nat) (BA : Option Addr) (bn bc : Nat) (FA : Option Addr) (fn fk : Nat) (FF : Option Addr) (fm fd : Nat) (s : St) (P : Option Addr) (cP : Nat) (p : List Int)
    (hG : RG w0 A n F m cs es) (hX : XS w0 w A n c F m d N nn cN BA bn bc FA fn fk FF fm fd s) (hP : OI w (w0.heap.size + 1) 2 P n cP p) (hp : Perm p) (hn : n ≤ 4096) (hm : m ≤ 1048576) (he : EdgesOk n es) (hl : s.leaves ≤ 100000) (hbl : s.best.length ≤ 100000) (hPF : blk P = none ∨ blk P ≠ blk FA) :
    Calls Tryz.prog 86 #[.pointer (some ⟨w0.heap.size, 0, none⟩), .slice P n cP] w (RetX w0 w A n c F m d N nn cN BA (leafP cs es s p)) := by
  have HPF := Lib.hid hPF
  clear hPF
  obtain ⟨vs0, hv0, -⟩ := hX.sb.best
  have hbn := hv0.slen
  have hfn := hX.sb.fc.len
  have hfm := hX.sb.fe.len
  have hlc := hX.sb.lc
  have hle := hX.sb.le_
  have c6 := hX.cells.2.2.1
  have z6 := hX.frozen 6
  have X1 := hX.leaves (u := (s.leaves : Int) + 1) (s.leaves + 1) (by omega)
  have K1 : Kp w0.heap.size (blk BA) w (w.setCell ⟨w0.heap.size, 6, none⟩ (.int .i64 ((s.leaves : Int) + 1))) := Kp.of_set 6 _
  have P1 := hP.setLow (p := ⟨w0.heap.size, 6, none⟩) (Nat.lt_succ_self _) (.int .i64 ((s.leaves : Int) + 1))
  generalize hW1 : w.setCell ⟨w0.heap.size, 6, none⟩ (.int .i64 ((s.leaves : Int) + 1)) = W1 at *
  obtain ⟨⟨-, -, q2, q3, -⟩, -⟩ := X1.cells
  have hrel := relabeledGraph_any A n c F m d cs es P n cP p W1 (hG.keep X1.sb.b) P1.reads rfl hp hn hm he
  have hw1 := X1.sb.b.size
  clear hv0 vs0
  have HS1 := Lib.hid (show w0.heap.size + 1 ≤ W1.heap.size from X1.sb.lt)
  have HN := Lib.hid (show (relC cs p).length ≤ 4096 by rw [relC_len, hG.ri.len]; exact hn)
  have HM := Lib.hid (show (relE es p).length ≤ 1048576 by have := relE_len es p; rw [hG.re.len] at this; omega)
  have HX1 := Lib.hid X1
  have HK1 := Lib.hid K1
  have HP1 := Lib.hid P1
  clear X1 K1 P1 hX hP hG he hp
  by_cases hb0 : s.best = []
  · obtain rfl : bn = 0 := by rw [← hbn, hb0]; rfl
    have HL := Lib.hid (leafP_neg (cs := cs) (es := es) (p := p) (show leafC cs es s p < 0 by rw [leafC, if_pos hb0]; omega))
    clear hb0
    go_enter Tryz.func86, Tryz.ntmps86
    go_wp2_with (first | (go_at_call 102; go_loud (refine hrel.mono ?_; rintro e w2 ⟨A2, n2, c2, F2, m2, d2, rfl, hG2, hb2⟩; obtain ⟨W3, hW3⟩ : ∃ W3, w2.alloc (.cells #[.slice A2 n2 c2, .slice F2 m2 d2] 36) = W3 := ⟨_, rfl⟩; have hb3 : Below w2.heap.size w2 W3 := hW3 ▸ below_alloc w2 _; have E : Blk W3 w2.heap.size 36 #[.slice A2 n2 c2, .slice F2 m2 d2] := hW3 ▸ Blk.new w2 _ _; have HX3 := Lib.hid ((HX1.out.step hb2).step hb3); have HB := Lib.hid (And.intro hb2 hb3); have HG := Lib.hid hG2; clear hb2 hb3 hG2; have b9 := HX3.out.cells.2.2.2.2.2; have z7 := HX3.out.frozen 7; have z8 := HX3.out.frozen 8; have z9 := HX3.out.frozen 9; have b7 := HX3.out.cells.2.2.2.1; have b8 := HX3.out.cells.2.2.2.2.1; have E1 := E.cells2.1; have E2 := E.cells2.2; clear E)) | (at_builtin; have X4 := HX3.out.form (((HG.out.oi.more HS1.out).below HB.out.2)) (((HG.out.oe.more HS1.out).below HB.out.2)) HN.out HM.out; have P4 := (((HP1.out.below HB.out.1).below HB.out.2).setLow (p := ⟨w0.heap.size, 7, none⟩) (Nat.lt_succ_self _) (.slice A2 n2 c2)).setLow (p := ⟨w0.heap.size, 8, none⟩) (Nat.lt_succ_self _) (.slice F2 m2 d2); have P4 := P4.setLow (p := ⟨w0.heap.size, 9, none⟩) (Nat.lt_succ_self _) (.slice none 0 0); have K4 := (((Kp.of_set (pb := w0.heap.size) (r := blk BA) (w := W3) 7 (.slice A2 n2 c2)).trans' (Kp.of_set (pb := w0.heap.size) (r := blk BA) 8 (.slice F2 m2 d2)) (Fresh.refl _ _)).trans' (Kp.of_set (pb := w0.heap.size) (r := blk BA) 9 (.slice none 0 0)) (Fresh.refl _ _)); have K3 := (HK1.out.trans' (Kp.of_below (r := blk BA) HB.out.1) (Fresh.refl _ _)).trans' (Kp.of_below (r := blk BA) HB.out.2) (Fresh.refl _ _); refine app_best _ rfl (.tmp 46) (.tmp 48) rfl (w0.heap.size + 1) none 0 0 [] rfl (OS.nil_ _ _ _ _) (P, n, cP) _ rfl (by simp) (by omega) X4.sb.lt ?_; intro A' c' w5 ho5 hg5 hf5; have hx5 := X4.x.grown hg5 (by simp [blk]); have z9' := hx5.frozen 9; have b9' := hx5.cell 9; have HX5 := Lib.hid (X4.push P4 (BV.nil_ _ _) (Afar.nil_ _) (far_of_new HP1.out HG.out.oi (Nat.le_refl _)) hg5 ho5); have HK5 := Lib.hid ((K3.trans' K4 (Fresh.refl _ _)).trans' ((Kp.of_grown (pb := w0.heap.size) hg5).trans' (Kp.of_set (pb := w0.heap.size) (r := blk none) 9 (.slice A' (0 + 1) c')) (Fresh.refl _ _)) (.inr (.inl rfl))); have HF5 := Lib.hid hf5; have HZ5 := Lib.hid (Nat.le_trans K3.size K4.size); clear X4 P4 K4 K3 hx5 ho5 hg5 hf5))
    refine bodyPost_ret (results_none rfl _ _ _) rfl ?_
    rw [HL.out]
    refine ⟨rfl, _, _, _, _, _, _, _, _, _, HX5.out, HK5.out, ?_⟩
    rcases HF5.out with h | h | ⟨k, h, h1⟩
    · exact .inr (.inl h)
    · exact .inr (.inl h)
    · exact .inr (.inr ⟨k, h, Nat.le_trans HZ5.out h1⟩)
  · have hbn0 : 0 < bn := by
      rw [← hbn]
      exact List.length_pos_iff.2 hb0
    have hlf : leafC cs es s p = cmpF (relC cs p) (relE es p) s.fc s.fe := by rw [leafC, if_neg hb0]
    generalize hcc : cmpF (relC cs p) (relE es p) s.fc s.fe = cc at *
    clear hb0
    by_cases h1 : cc < 0
    · have HL := Lib.hid (leafP_neg (cs := cs) (es := es) (p := p) (show leafC cs es s p < 0 by rw [hlf]; exact h1))
      clear hlf
      have h1' : cc ≤ 0 := by omega
      go_enter Tryz.func86, Tryz.ntmps86
      go_wp2_with ((go_at_call 102; go_loud (refine hrel.mono ?_; rintro e w2 ⟨A2, n2, c2, F2, m2, d2, rfl, hG2, hb2⟩; obtain ⟨W3, hW3⟩ : ∃ W3, w2.alloc (.cells #[.slice A2 n2 c2, .slice F2 m2 d2] 36) = W3 := ⟨_, rfl⟩; have hb3 : Below w2.heap.size w2 W3 := hW3 ▸ below_alloc w2 _; have E : Blk W3 w2.heap.size 36 #[.slice A2 n2 c2, .slice F2 m2 d2] := hW3 ▸ Blk.new w2 _ _; have HX3 := Lib.hid ((HX1.out.step hb2).step hb3); have HB := Lib.hid (And.intro hb2 hb3); have HG := Lib.hid hG2; clear hb2 hb3 hG2; have b9 := HX3.out.cells.2.2.2.2.2; have z7 := HX3.out.frozen 7; have z8 := HX3.out.frozen 8; have z9 := HX3.out.frozen 9; have b7 := HX3.out.cells.2.2.2.1; have b8 := HX3.out.cells.2.2.2.2.1; have E1 := E.cells2.1; have E2 := E.cells2.2; clear E)))
      have hlo := HG.out.oi.len
      have hle2 := HG.out.oe.len
      have hN := HN.out
      have hM := HM.out
      have hcf := fun (W' : World) (hb : Below W3.heap.size W3 W') => compareForms_any A2 n2 c2 F2 m2 d2 (relC cs p) (relE es p) FA fn fk FF fm fd s.fc s.fe W' ((HG.out.reads.keep HB.out.2).keep hb) ((RG.mk HX3.out.sb.fc.reads HX3.out.sb.fe.reads).keep hb) (by omega) (by omega) (by omega) (by omega)
      rw [hcc] at hcf
      have HCF := Lib.hid hcf
      clear hcf hlo hle2 hN hM
      go_region_held_law (fun w' => Below W3.heap.size W3 w' ∧ w'.cell? ⟨w2.heap.size, 0, none⟩ = some (.slice A2 n2 c2) ∧ w'.cell? ⟨w2.heap.size, 1, none⟩ = some (.slice F2 m2 d2) ∧ w'.cell? ⟨w0.heap.size, 7, none⟩ = some (.slice FA fn fk) ∧ w'.cell? ⟨w0.heap.size, 8, none⟩ = some (.slice FF fm fd))
        (first | exact keep4 (below_drewn _ 1) E1 E2 b7 b8 | exact keep4 (by assumption) E1 E2 b7 b8)
        (first | (go_at_call 103; (with_reducible refine (HCF.out _ ?_).mono ?_); (exact below_drewn _ 1); rintro e w4 ⟨rfl, hb4⟩; have hX4 : Below W3.heap.size W3 w4 := (below_drewn _ 1).trans (hb4.mono (Nat.le_refl _))))
      have HB4 := Lib.hid hX4
      have HX4 := Lib.hid (HX3.out.step hX4)
      have E1 := below_cell hX4 E1
      have E2 := below_cell hX4 E2
      have b9 := HX4.out.cells.2.2.2.2.2
      have z7 := HX4.out.frozen 7
      have z8 := HX4.out.frozen 8
      have z9 := HX4.out.frozen 9
      have b7 := HX4.out.cells.2.2.2.1
      have b8 := HX4.out.cells.2.2.2.2.1
      clear hX4 hb4
      go_wp2_with (at_builtin; have X4 := HX4.out.form (((HG.out.oi.more HS1.out).below HB.out.2).below HB4.out) (((HG.out.oe.more HS1.out).below HB.out.2).below HB4.out) HN.out HM.out; have P4 := ((((HP1.out.below HB.out.1).below HB.out.2).below HB4.out).setLow (p := ⟨w0.heap.size, 7, none⟩) (Nat.lt_succ_self _) (.slice A2 n2 c2)).setLow (p := ⟨w0.heap.size, 8, none⟩) (Nat.lt_succ_self _) (.slice F2 m2 d2); have P4 := P4.setLow (p := ⟨w0.heap.size, 9, none⟩) (Nat.lt_succ_self _) (.slice none 0 0); have K4 := (((Kp.of_set (pb := w0.heap.size) (r := blk BA) (w := w4) 7 (.slice A2 n2 c2)).trans' (Kp.of_set (pb := w0.heap.size) (r := blk BA) 8 (.slice F2 m2 d2)) (Fresh.refl _ _)).trans' (Kp.of_set (pb := w0.heap.size) (r := blk BA) 9 (.slice none 0 0)) (Fresh.refl _ _)); have K3 := ((HK1.out.trans' (Kp.of_below (r := blk BA) HB.out.1) (Fresh.refl _ _)).trans' (Kp.of_below (r := blk BA) HB.out.2) (Fresh.refl _ _)).trans' (Kp.of_below (r := blk BA) HB4.out) (Fresh.refl _ _); refine app_best _ rfl (.tmp 46) (.tmp 48) rfl (w0.heap.size + 1) none 0 0 [] rfl (OS.nil_ _ _ _ _) (P, n, cP) _ rfl (by simp) (by omega) X4.sb.lt ?_; intro A' c' w5 ho5 hg5 hf5; have hx5 := X4.x.grown hg5 (by simp [blk]); have z9' := hx5.frozen 9; have b9' := hx5.cell 9; have HX5 := Lib.hid (X4.push P4 (BV.nil_ _ _) (Afar.nil_ _) (far_of_new HP1.out HG.out.oi (Nat.le_refl _)) hg5 ho5); have HK5 := Lib.hid ((K3.trans' K4 (Fresh.refl _ _)).trans' ((Kp.of_grown (pb := w0.heap.size) hg5).trans' (Kp.of_set (pb := w0.heap.size) (r := blk none) 9 (.slice A' (0 + 1) c')) (Fresh.refl _ _)) (.inr (.inl rfl))); have HF5 := Lib.hid hf5; have HZ5 := Lib.hid (Nat.le_trans K3.size K4.size); clear X4 P4 K4 K3 hx5 ho5 hg5 hf5)
      refine bodyPost_ret (results_none rfl _ _ _) rfl ?_
      rw [HL.out]
      refine ⟨rfl, _, _, _, _, _, _, _, _, _, HX5.out, HK5.out, ?_⟩
      rcases HF5.out with h | h | ⟨k, h, h1⟩
      · exact .inr (.inl h)
      · exact .inr (.inl h)
      · exact .inr (.inr ⟨k, h, Nat.le_trans HZ5.out h1⟩)
    · by_cases h2 : cc = 0
      · have HL := Lib.hid (leafP_same (cs := cs) (es := es) (p := p) (show leafC cs es s p = 0 by rw [hlf]; exact h2))
        clear hlf
        have h1' : cc ≤ 0 := by omega
        go_enter Tryz.func86, Tryz.ntmps86
        go_wp2_with ((go_at_call 102; go_loud (refine hrel.mono ?_; rintro e w2 ⟨A2, n2, c2, F2, m2, d2, rfl, hG2, hb2⟩; obtain ⟨W3, hW3⟩ : ∃ W3, w2.alloc (.cells #[.slice A2 n2 c2, .slice F2 m2 d2] 36) = W3 := ⟨_, rfl⟩; have hb3 : Below w2.heap.size w2 W3 := hW3 ▸ below_alloc w2 _; have E : Blk W3 w2.heap.size 36 #[.slice A2 n2 c2, .slice F2 m2 d2] := hW3 ▸ Blk.new w2 _ _; have HX3 := Lib.hid ((HX1.out.step hb2).step hb3); have HB := Lib.hid (And.intro hb2 hb3); have HG := Lib.hid hG2; clear hb2 hb3 hG2; have b9 := HX3.out.cells.2.2.2.2.2; have z7 := HX3.out.frozen 7; have z8 := HX3.out.frozen 8; have z9 := HX3.out.frozen 9; have b7 := HX3.out.cells.2.2.2.1; have b8 := HX3.out.cells.2.2.2.2.1; have E1 := E.cells2.1; have E2 := E.cells2.2; clear E)))
        have hlo := HG.out.oi.len
        have hle2 := HG.out.oe.len
        have hN := HN.out
        have hM := HM.out
        have hcf := fun (W' : World) (hb : Below W3.heap.size W3 W') => compareForms_any A2 n2 c2 F2 m2 d2 (relC cs p) (relE es p) FA fn fk FF fm fd s.fc s.fe W' ((HG.out.reads.keep HB.out.2).keep hb) ((RG.mk HX3.out.sb.fc.reads HX3.out.sb.fe.reads).keep hb) (by omega) (by omega) (by omega) (by omega)
        rw [hcc] at hcf
        have HCF := Lib.hid hcf
        clear hcf hlo hle2 hN hM
        go_region_held_law (fun w' => Below W3.heap.size W3 w' ∧ w'.cell? ⟨w2.heap.size, 0, none⟩ = some (.slice A2 n2 c2) ∧ w'.cell? ⟨w2.heap.size, 1, none⟩ = some (.slice F2 m2 d2) ∧ w'.cell? ⟨w0.heap.size, 7, none⟩ = some (.slice FA fn fk) ∧ w'.cell? ⟨w0.heap.size, 8, none⟩ = some (.slice FF fm fd))
          (first | exact keep4 (below_drewn _ 1) E1 E2 b7 b8 | exact keep4 (by assumption) E1 E2 b7 b8)
          (first | (go_at_call 103; (with_reducible refine (HCF.out _ ?_).mono ?_); (exact below_drewn _ 1); rintro e w4 ⟨rfl, hb4⟩; have hX4 : Below W3.heap.size W3 w4 := (below_drewn _ 1).trans (hb4.mono (Nat.le_refl _))))
        have HB4 := Lib.hid hX4
        have HX4 := Lib.hid (HX3.out.step hX4)
        have E1 := below_cell hX4 E1
        have E2 := below_cell hX4 E2
        have b9 := HX4.out.cells.2.2.2.2.2
        have z7 := HX4.out.frozen 7
        have z8 := HX4.out.frozen 8
        have z9 := HX4.out.frozen 9
        have b7 := HX4.out.cells.2.2.2.1
        have b8 := HX4.out.cells.2.2.2.2.1
        clear hX4 hb4
        go_wp2_with (at_builtin; obtain ⟨vs, hv, hva⟩ := HX4.out.sb.best; have P4 := ((HP1.out.below HB.out.1).below HB.out.2).below HB4.out; have K3 := ((HK1.out.trans' (Kp.of_below (r := blk BA) HB.out.1) (Fresh.refl _ _)).trans' (Kp.of_below (r := blk BA) HB.out.2) (Fresh.refl _ _)).trans' (Kp.of_below (r := blk BA) HB4.out) (Fresh.refl _ _); refine app_best _ rfl (.tmp 46) (.tmp 48) rfl (w0.heap.size + 1) BA bn bc vs rfl hv.os (P, n, cP) _ rfl (by simp) (by omega) HX4.out.sb.lt ?_; intro A' c' w5 ho5 hg5 hf5; have hx5 := HX4.out.x.grown hg5 (OS.typed' hv.os HX4.out.x (by decide)); have z9' := hx5.frozen 9; have b9' := hx5.cell 9; have HX5 := Lib.hid (HX4.out.push P4 hv hva HPF.out hg5 ho5); have HK5 := Lib.hid (K3.trans' ((Kp.of_grown (pb := w0.heap.size) hg5).trans' (Kp.of_set (pb := w0.heap.size) (r := blk BA) 9 (.slice A' (bn + 1) c')) (Fresh.refl _ _)) (Fresh.refl _ _)); have HF5 := Lib.hid hf5; have HZ5 := Lib.hid K3.size; clear P4 K3 hx5 ho5 hg5 hf5 hv)
        refine bodyPost_ret (results_none rfl _ _ _) rfl ?_
        rw [HL.out]
        refine ⟨rfl, _, _, _, _, _, _, _, _, _, HX5.out, HK5.out, ?_⟩
        rcases HF5.out with h | h | ⟨k, h, h1⟩
        · exact .inl h
        · exact .inr (.inl h)
        · exact .inr (.inr ⟨k, h, Nat.le_trans HZ5.out h1⟩)
      · have HL := Lib.hid (leafP_pos (cs := cs) (es := es) (p := p) (show ¬ leafC cs es s p < 0 by rw [hlf]; exact h1) (by rw [hlf]; exact h2))
        clear hlf
        have h1' : ¬ cc ≤ 0 := by omega
        go_enter Tryz.func86, Tryz.ntmps86
        go_wp2_with ((go_at_call 102; go_loud (refine hrel.mono ?_; rintro e w2 ⟨A2, n2, c2, F2, m2, d2, rfl, hG2, hb2⟩; obtain ⟨W3, hW3⟩ : ∃ W3, w2.alloc (.cells #[.slice A2 n2 c2, .slice F2 m2 d2] 36) = W3 := ⟨_, rfl⟩; have hb3 : Below w2.heap.size w2 W3 := hW3 ▸ below_alloc w2 _; have E : Blk W3 w2.heap.size 36 #[.slice A2 n2 c2, .slice F2 m2 d2] := hW3 ▸ Blk.new w2 _ _; have HX3 := Lib.hid ((HX1.out.step hb2).step hb3); have HB := Lib.hid (And.intro hb2 hb3); have HG := Lib.hid hG2; clear hb2 hb3 hG2; have b9 := HX3.out.cells.2.2.2.2.2; have z7 := HX3.out.frozen 7; have z8 := HX3.out.frozen 8; have z9 := HX3.out.frozen 9; have b7 := HX3.out.cells.2.2.2.1; have b8 := HX3.out.cells.2.2.2.2.1; have E1 := E.cells2.1; have E2 := E.cells2.2; clear E)))
        have hlo := HG.out.oi.len
        have hle2 := HG.out.oe.len
        have hN := HN.out
        have hM := HM.out
        have hcf := fun (W' : World) (hb : Below W3.heap.size W3 W') => compareForms_any A2 n2 c2 F2 m2 d2 (relC cs p) (relE es p) FA fn fk FF fm fd s.fc s.fe W' ((HG.out.reads.keep HB.out.2).keep hb) ((RG.mk HX3.out.sb.fc.reads HX3.out.sb.fe.reads).keep hb) (by omega) (by omega) (by omega) (by omega)
        rw [hcc] at hcf
        have HCF := Lib.hid hcf
        clear hcf hlo hle2 hN hM
        go_region_held_law (fun w' => Below W3.heap.size W3 w' ∧ w'.cell? ⟨w2.heap.size, 0, none⟩ = some (.slice A2 n2 c2) ∧ w'.cell? ⟨w2.heap.size, 1, none⟩ = some (.slice F2 m2 d2) ∧ w'.cell? ⟨w0.heap.size, 7, none⟩ = some (.slice FA fn fk) ∧ w'.cell? ⟨w0.heap.size, 8, none⟩ = some (.slice FF fm fd))
          (first | exact keep4 (below_drewn _ 1) E1 E2 b7 b8 | exact keep4 (by assumption) E1 E2 b7 b8)
          (first | (go_at_call 103; (with_reducible refine (HCF.out _ ?_).mono ?_); (exact below_drewn _ 1); rintro e w4 ⟨rfl, hb4⟩; have hX4 : Below W3.heap.size W3 w4 := (below_drewn _ 1).trans (hb4.mono (Nat.le_refl _))))
        have HB4 := Lib.hid hX4
        have HX4 := Lib.hid (HX3.out.step hX4)
        have E1 := below_cell hX4 E1
        have E2 := below_cell hX4 E2
        have b9 := HX4.out.cells.2.2.2.2.2
        have z7 := HX4.out.frozen 7
        have z8 := HX4.out.frozen 8
        have z9 := HX4.out.frozen 9
        have b7 := HX4.out.cells.2.2.2.1
        have b8 := HX4.out.cells.2.2.2.2.1
        clear hX4 hb4
        go_wp2
        refine bodyPost_ret (results_none rfl _ _ _) rfl ?_
        rw [HL.out]
        exact ⟨rfl, _, _, _, _, _, _, _, _, _, HX4.out, ((HK1.out.trans' (Kp.of_below (r := blk BA) HB.out.1) (Fresh.refl _ _)).trans' (Kp.of_below (r := blk BA) HB.out.2) (Fresh.refl _ _)).trans' (Kp.of_below (r := blk BA) HB4.out) (Fresh.refl _ _), Fresh.refl _ _⟩
end Go.Proofs.YtncknfhfkmmhbaaGreat
