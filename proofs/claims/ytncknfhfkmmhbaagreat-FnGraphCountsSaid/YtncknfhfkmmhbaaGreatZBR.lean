/- spec.l22Search and spec.l22Start. No condition beyond those stated. -/
import Derived.Test.YtncknfhfkmmhbaaGreatZBP
import Derived.Test.YtncknfhfkmmhbaaGreatZAZ
import Derived.Test.YtncknfhfkmmhbaaGreatZBQ
import Derived.Test.YtncknfhfkmmhbaaGreatZBO
set_option linter.unusedVariables false
set_option linter.unusedSimpArgs false
namespace Go.Proofs.YtncknfhfkmmhbaaGreat
open Go.RowKit

/-- the code of a search -/
noncomputable def codeP (cs : List Int) (es : List Ed) (b : Int) : Int := if tB (GraphOk cs es) = false then 1 else if inB b 1 20000 = false then 2 else if (runP cs es b.toNat).spent then 5 else 0
end Go.Proofs.YtncknfhfkmmhbaaGreat
/- (*impl.explorer).search, whole. No condition beyond those stated. -/
namespace Go.Proofs.YtncknfhfkmmhbaaGreat
open Go.RowKit

theorem search_any (w0 : World) (A : Option Addr) (n c : Nat) (F : Option Addr) (m d : Nat) (cs : List Int) (es : List Ed) (N : Option Addr) (cN : Nat)
    (hG : RG w0 A n F m cs es) (hN : RR w0 N n (nearP n es)) (hn : n ≤ 4096) (hm : m ≤ 1048576) (he : EdgesOk n es) : ∀ (f : Nat) (w : World) (BA P : Option Addr) (cP : Nat) (s : St) (cells : List Int), s.left ≤ f → Ask w0 w A n c F m d N cN BA P cP s cells →
    Calls Tryz.prog 55 #[.pointer (some ⟨w0.heap.size, 0, none⟩), .slice P n cP] w (RetX w0 w A n c F m d N n cN BA (searchP cs es (nearP n es) f s cells))
  | 0, w, BA, P, cP, s, cells, hl, hA => by
    rw [searchP]
    exact search_step w0 w A n c F m d cs es N cN BA P cP s cells (fun s _ => s) hG hN hn hm he hA (fun w' BA' P' cP' s' cells' h _ => absurd h (by omega)) (fun s' cells' h _ => absurd h (by omega))
  | f + 1, w, BA, P, cP, s, cells, hl, hA => by
    rw [searchP]
    exact search_step w0 w A n c F m d cs es N cN BA P cP s cells (searchP cs es (nearP n es) f) hG hN hn hm he hA (fun w' BA' P' cP' s' cells' h h' => search_any w0 A n c F m d cs es N cN hG hN hn hm he f w' BA' P' cP' s' cells' (by omega) h') (fun s' cells' h h' => searchP_kept cs es (nearP n es) f s' cells' (by omega) h')
end Go.Proofs.YtncknfhfkmmhbaaGreat
/- impl.explored. No condition beyond those stated. -/
namespace Go.Proofs.YtncknfhfkmmhbaaGreat
open Go.RowKit

/-- what the search of a graph hands back, the target's side -/
def RetS (w : World) (A : Option Addr) (n c : Nat) (F : Option Addr) (m d : Nat) (cs : List Int) (es : List Ed) (b : Int) (e : Ending) (w' : World) : Prop :=
  Below w.heap.size w w' ∧
  ((¬ GraphOk cs es ∧ e = .returned (.tuple #[.pointer none, .int .i64 1])) ∨
   (GraphOk cs es ∧ inB b 1 20000 = false ∧ e = .returned (.tuple #[.pointer none, .int .i64 2])) ∨
   (GraphOk cs es ∧ inB b 1 20000 = true ∧ (runP cs es b.toNat).spent = true ∧ e = .returned (.tuple #[.pointer none, .int .i64 5])) ∨
   (GraphOk cs es ∧ inB b 1 20000 = true ∧ (runP cs es b.toNat).spent = false ∧ ∃ w0 : World, e = .returned (.tuple #[.pointer (some ⟨w0.heap.size, 0, none⟩), .int .i64 0]) ∧ Below w.heap.size w w0 ∧
     ∃ N cN BA bn bc FA fn fk FF fm fd, XS w0 w' A n c F m d N n cN BA bn bc FA fn fk FF fm fd (runP cs es b.toNat)))
set_option maxRecDepth 100000 in
set_option maxHeartbeats 4000000 in
theorem explored_any (w : World) (A : Option Addr) (n c : Nat) (F : Option Addr) (m d : Nat) (cs : List Int) (es : List Ed) (b : Int) (hG : RG w A n F m cs es) (hn : n ≤ 9223372036854775807) (hm : m ≤ 9223372036854775807) :
    Calls Tryz.prog 34 #[.agg #[.slice A n c, .slice F m d], .int .i64 b] w (RetS w A n c F m d cs es b) := by
  have hb1 := below_alloc w (.cells #[.slice A n c, .slice F m d] 36)
  have X := Blk.new w 36 #[.slice A n c, .slice F m d]
  obtain ⟨ii, hi, hi0, hi1, hi2⟩ := info_parts graph_info
  have hG1 := hG.keep hb1
  generalize hW1 : w.alloc (.cells #[.slice A n c, .slice F m d] 36) = W1 at *
  have hvg := validGraph_any A n c F m d cs es W1 hG1 hn hm
  obtain ⟨x0, x1⟩ := X.cells2
  by_cases hg : GraphOk cs es
  · rw [tB_yes hg] at hvg
    cases hbd : inB b 1 20000 with
    | false =>
      go_enter Tryz.func34, Tryz.ntmps34
      go_wp2_with (first | (go_at_call 33; refine hvg.mono ?_; rintro e w2 ⟨rfl, hb2⟩) | (go_at_call 53; refine (isBudget_any _ _).mono ?_; rintro e w3 ⟨rfl, rfl⟩; rw [hbd]))
      go_ret2
      exact ⟨hb1.trans (hb2.mono hb1.size), .inr (.inl ⟨hg, hbd, rfl⟩)⟩
    | true =>
      obtain ⟨b0, rfl⟩ : ∃ k : Nat, b = k := ⟨b.toNat, by unfold inB at hbd; simp at hbd; omega⟩
      have hb20 : b0 ≤ 20000 := by have := (inB_true hbd).2; omega
      have hcl := hG.ri.len
      have hel := hG.re.len
      have hc64 := hg.clen
      have he512 := hg.elen
      have hed := graph_edges hg
      rw [hcl] at hed
      go_enter Tryz.func34, Tryz.ntmps34
      go_wp2_with (first | (go_at_call 33; refine hvg.mono ?_; rintro e w2 ⟨rfl, hb2⟩; have x0 := below_cell hb2 x0; have x1 := below_cell hb2 x1) | (go_at_call 53; refine (isBudget_any _ _).mono ?_; rintro e w3 ⟨rfl, rfl⟩; rw [hbd]))
      have hnb := fun (W' : World) (hb : Below w2.heap.size w2 W') => neighborLists_any A n c F m d cs es W' ((hG1.keep hb2).keep hb) (by omega) (by omega) hed
      have HNB := Lib.hid hnb
      clear hnb
      go_region_held_law (fun w' => Below w2.heap.size w2 w' ∧ w'.cell? ⟨w.heap.size, 0, none⟩ = some (.slice A n c) ∧ w'.cell? ⟨w.heap.size, 1, none⟩ = some (.slice F m d))
        (first | exact ⟨below_drewn _ 1, x0, x1⟩ | exact ⟨by assumption, below_cell (by assumption) x0, below_cell (by assumption) x1⟩ | exact ⟨hX3.trans ((below_alloc _ _).mono hX3.size), below_cell (hX3.trans ((below_alloc _ _).mono hX3.size)) x0, below_cell (hX3.trans ((below_alloc _ _).mono hX3.size)) x1⟩)
        (first | (go_at_call 54; (with_reducible refine (HNB.out _ ?_).mono ?_); (exact below_drewn _ 1); rintro e w3 ⟨N, nn, cN, rfl, hN, hb3⟩; have hX3 : Below w2.heap.size w2 w3 := (below_drewn _ 1).trans (hb3.mono (Nat.le_refl _))))
      obtain rfl : nn = n := by rw [← hN.len, nearP_len]
      have hw3 : Below w.heap.size w w3 := (hb1.trans (hb2.mono hb1.size)).trans (hX3.mono (Nat.le_trans hb1.size hb2.size))
      have XB := Blk.new w3 57 #[.int .i64 (b0 : Int), .bool false, .slice A nn c, .slice F m d, .slice N nn cN, .int .i64 0, .int .i64 0, .slice none 0 0, .slice none 0 0, .slice none 0 0]
      have X0 : XS w3 _ A nn c F m d N nn cN none 0 0 none 0 0 none 0 0 ⟨b0, false, 0, 0, [], [], []⟩ := ⟨XB, below_alloc w3 _, by simp, ⟨[], BV.nil_ _ _, Afar.nil_ _⟩, OI.nil_ _ _ _, OE.nil_ _ _ _, by simp, by simp⟩
      have hG3 := (hG1.keep hb2).keep hX3
      have hN3 := hN.reads
      have HRF := Lib.hid (fun (W' : World) (hb : Below w3.heap.size w3 W') => refine_any N nn cN (nearP nn es) A c cs W' (hN3.keep hb) (hG3.ri.keep hb) (by omega) (nearP_nears nn es))
      have y4 := X0.cells.1.2.2.2.2
      have bX := below_alloc w3 (.cells #[.int .i64 (b0 : Int), .bool false, .slice A nn c, .slice F m d, .slice N nn cN, .int .i64 0, .int .i64 0, .slice none 0 0, .slice none 0 0, .slice none 0 0] 57)
      have y0 := below_cell (hX3.trans (bX.mono hX3.size)) x0
      have y1 := below_cell (hX3.trans (bX.mono hX3.size)) x1
      have HX0 := Lib.hid X0
      have hs3 := hw3.size
      clear X0 XB
      have HS := Lib.hid (search_any w3 A nn c F m d cs es N cN hG3 hN3 (by omega) (by omega) hed)
      go_wp2
      generalize hW4 : w3.alloc _ = W4 at *
      have hr4 : Below w3.heap.size w3 W4.drew := bX.trans (below_drewn' _ _ 1)
      have z0 := below_cell hX3 x0
      have hl4 : W4.heap.size = w3.heap.size + 1 := by rw [← hW4]; simp
      have hcall := fun (w5 : World) (A5 : Option Addr) (n5 c5 : Nat) (hX5 : Below W4.heap.size W4 w5) (hn5 : n5 = nn) (ho5 : OI w5 W4.drew.heap.size 2 A5 n5 c5 (refP (nearP nn es) cs)) => (show Calls Tryz.prog 55 #[.pointer (some ⟨w3.heap.size, 0, none⟩), .slice A5 n5 c5] w5 (RetX w3 w5 A nn c F m d N nn cN none (runP cs es b0)) by
        subst hn5
        have h1 := HS.out b0 w5 none A5 c5 ⟨b0, false, 0, 0, [], [], []⟩ (refP (nearP n5 es) cs) (Nat.le_refl _) ⟨⟨_, _, _, _, _, _, _, _, HX0.out.step hX5, far_none _⟩, ho5.more (by show w3.heap.size + 1 ≤ W4.heap.size; omega), by (have := refP_cells (nearP n5 es) cs; rwa [hcl] at this), by simp; omega, by simp; omega, by simp⟩
        rw [runP, hcl]
        exact h1)
      have HCa := Lib.hid hcall
      clear hcall
      go_region_held_law (fun w' => Below w3.heap.size w3 w' ∧ w'.cell? ⟨w3.heap.size, 4, none⟩ = some (.slice N nn cN) ∧ w'.cell? ⟨w.heap.size, 0, none⟩ = some (.slice A nn c))
        (first | exact ⟨hr4, y4, y0⟩ | exact ⟨bX.trans (hX5.mono bX.size), below_cell hX5 y4, below_cell hX5 y0⟩ | exact ⟨hX6.sb.b, hX6.cells.1.2.2.2.2, below_cell hX6.sb.b z0⟩)
        (first
          | (go_at_call 56; (with_reducible refine (HRF.out _ ?_).mono ?_); (exact hr4); rintro e w5 ⟨A5, n5, c5, rfl, ho5, hb5⟩; have hX5 : Below W4.heap.size W4 w5 := (below_drewn _ 1).trans (hb5.mono (Nat.le_refl _)))
          | (go_at_call 55; (with_reducible refine (HCa.out _ _ _ _ ?_ ?_ ?_).mono ?_); (exact hX5); (rw [← ho5.len, (refP_cells _ _).len]; exact hcl); (exact ho5); rintro e w6 ⟨rfl, BA6, bn6, bc6, FA6, fn6, fk6, FF6, fm6, fd6, hX6, hK6, hF6⟩))
      have q1 := hX6.cells.1.2.1
      have hwf := hw3.trans (hX6.sb.b.mono hs3)
      cases hsp : (runP cs es b0).spent with
      | true =>
        rw [hsp] at q1
        go_wp2
        go_ret2
        exact ⟨hwf, .inr (.inr (.inl ⟨hg, hbd, hsp, rfl⟩))⟩
      | false =>
        rw [hsp] at q1
        go_wp2
        go_ret2
        exact ⟨hwf, .inr (.inr (.inr ⟨hg, hbd, hsp, w3, rfl, hw3, _, _, _, _, _, _, _, _, _, _, _, hX6⟩))⟩
  · rw [tB_no hg] at hvg
    go_enter Tryz.func34, Tryz.ntmps34
    go_wp2_with (go_at_call 33; refine hvg.mono ?_; rintro e w2 ⟨rfl, hb2⟩)
    go_ret2
    exact ⟨hb1.trans (hb2.mono hb1.size), .inl ⟨hg, rfl⟩⟩
end Go.Proofs.YtncknfhfkmmhbaaGreat
