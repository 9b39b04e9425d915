/- What the searches of both sides hand back; the number of automorphisms and the size of a search. No condition beyond those stated. -/
import Derived.Test.YtncknfhfkmmhbaaGreatZBR
import Derived.Test.YtncknfhfkmmhbaaGreatZAF
import Derived.Test.YtncknfhfkmmhbaaGreatZAL
import Derived.Test.YtncknfhfkmmhbaaGreatZAY
import Derived.Test.YtncknfhfkmmhbaaGreatZAD
set_option linter.unusedVariables false
set_option linter.unusedSimpArgs false
namespace Go.Proofs.YtncknfhfkmmhbaaGreat
open Go.RowKit

/-- what the program's search hands back -/
def RetY (w : World) (A : Option Addr) (n c : Nat) (F : Option Addr) (m d : Nat) (cs : List Int) (es : List Ed) (b : Int) (e : Ending) (w' : World) : Prop :=
  Below w.heap.size w w' ∧ ∃ v, e = .returned (.tuple #[.pointer v, .int .i64 (codeP cs es b)]) ∧ (codeP cs es b = 0 → ∃ w0 : World, v = some ⟨w0.heap.size, 0, none⟩ ∧ Below w.heap.size w w0 ∧ (runP cs es b.toNat).spent = false ∧ GraphOk cs es ∧ b.toNat ≤ 20000 ∧
    ∃ N cN BA bn bc FA fn fk FF fm fd, XS w0 w' A n c F m d N n cN BA bn bc FA fn fk FF fm fd (runP cs es b.toNat))
theorem explored_any' (w : World) (A : Option Addr) (n c : Nat) (F : Option Addr) (m d : Nat) (cs : List Int) (es : List Ed) (b : Int) (hG : RG w A n F m cs es) (hn : n ≤ 9223372036854775807) (hm : m ≤ 9223372036854775807) :
    Calls Tryz.prog 34 #[.agg #[.slice A n c, .slice F m d], .int .i64 b] w (RetY w A n c F m d cs es b) := by
  refine (explored_any w A n c F m d cs es b hG hn hm).mono ?_
  rintro e w' ⟨hb, h⟩
  refine ⟨hb, ?_⟩
  rcases h with ⟨h1, rfl⟩ | ⟨h1, h2, rfl⟩ | ⟨h1, h2, h3, rfl⟩ | ⟨h1, h2, h3, w0, rfl, h4, N, cN, BA, bn, bc, FA, fn, fk, FF, fm, fd, h5⟩
  · have hC : codeP cs es b = 1 := by rw [codeP, tB_no h1]; simp
    exact ⟨none, by rw [hC], fun h => by rw [hC] at h; cases h⟩
  · have hC : codeP cs es b = 2 := by rw [codeP, tB_yes h1, h2]; simp
    exact ⟨none, by rw [hC], fun h => by rw [hC] at h; cases h⟩
  · have hC : codeP cs es b = 5 := by rw [codeP, tB_yes h1, h2]; simp [h3]
    exact ⟨none, by rw [hC], fun h => by rw [hC] at h; cases h⟩
  · have hC : codeP cs es b = 0 := by rw [codeP, tB_yes h1, h2]; simp [h3]
    exact ⟨_, by rw [hC], fun _ => ⟨w0, rfl, h4, h3, h1, by have := inB_true h2; omega, _, _, _, _, _, _, _, _, _, _, _, h5⟩⟩
theorem codeP_cases (cs : List Int) (es : List Ed) (b : Int) : codeP cs es b = 0 ∨ (codeP cs es b ≠ 0 ∧ (codeP cs es b != 0) = true) := by
  by_cases h : codeP cs es b = 0
  · exact .inl h
  · exact .inr ⟨h, by simp [h]⟩
noncomputable def countP' (cs : List Int) (es : List Ed) (b : Int) : Int := if codeP cs es b = 0 then ((runP cs es b.toNat).best.length : Int) else 0
noncomputable def nodesP (cs : List Int) (es : List Ed) (b : Int) : Int := if codeP cs es b = 0 then ((runP cs es b.toNat).nodes : Int) else 0
noncomputable def leavesP (cs : List Int) (es : List Ed) (b : Int) : Int := if codeP cs es b = 0 then ((runP cs es b.toNat).leaves : Int) else 0
end Go.Proofs.YtncknfhfkmmhbaaGreat
/- Whether two graphs are equal, both sides. No condition beyond those stated. -/
namespace Go.Proofs.YtncknfhfkmmhbaaGreat
open Go.RowKit

theorem upToE_all {xs ys : List Ed} (h : xs.length = ys.length) (k : upToE xs ys xs.length) : xs = ys := by
  apply List.ext_getElem h
  intro i h1 h2
  have := k i h1
  rwa [nthE_get h1, nthE_get h2] at this
theorem upToE_step {xs ys : List Ed} {k : Nat} (h : upToE xs ys k) (he : nthE xs k = nthE ys k) : upToE xs ys (k + 1) := fun j hj => by
  rcases Nat.lt_succ_iff_lt_or_eq.1 hj with h1 | h1
  · exact h j h1
  · rw [h1]; exact he
set_option maxRecDepth 100000 in
set_option maxHeartbeats 1000000 in
theorem equalE_any (A B : Option Addr) (n m c d : Nat) (xs ys : List Ed) (w : World) (ha : RE w A n xs) (hb : RE w B m ys) (hn : n ≤ 4398046511104) (hm : m ≤ 4398046511104) :
    Calls Tryz.prog 36 #[.slice A n c, .slice B m d] w (Quiet w (.bool (decide (xs = ys)))) := by
  have hla := Lib.hid ha.len
  have hlb := Lib.hid hb.len
  by_cases h : n = m
  · subst h
    obtain ⟨ii, hi, hi0, hi1, hi2⟩ := info_parts edge_info
    go_enter Tryz.func36, Tryz.ntmps36
    go_wp2
    go_loopw [5, 13] (fun _ i wr => ∃ k : Nat, k ≤ n ∧ i = .int .i64 k ∧ Drawn w wr ∧ upToE xs ys k) (fun _ i _ => n - (intOf i).toNat)
    case atStart => exact ⟨0, Nat.zero_le _, rfl, Drawn.refl _, fun _ h => absurd h (by omega)⟩
    case round =>
      obtain ⟨k, hk, rfl, hd, hu⟩ := hrel
      by_cases hlt : k < n
      · obtain ⟨ga, oa, rfl, a1, a2, i1, i2⟩ := (ha.drawn hd).get hlt
        obtain ⟨gb, ob, rfl, b1, b2, i3, i4⟩ := (hb.drawn hd).get hlt
        have hkb : (k : Int) < n := by omega
        have hwk : IntKind.i64.wrap (k : Int) = (k : Int) := by unfold IntKind.wrap IntKind.bits IntKind.signed; simp; omega
        have hS0 : (wr.drewN 1).cell? ⟨ga, oa + k * 2, none⟩ = some (.int .i64 (nthE xs k).1) ∧ (wr.drewN 1).cell? ⟨ga, oa + k * 2 + 1, none⟩ = some (.int .i64 (nthE xs k).2) ∧ (wr.drewN 1).cell? ⟨gb, ob + k * 2, none⟩ = some (.int .i64 (nthE ys k).1) ∧ (wr.drewN 1).cell? ⟨gb, ob + k * 2 + 1, none⟩ = some (.int .i64 (nthE ys k).2) := ⟨a1, a2, b1, b2⟩
        by_cases he : nthE xs k = nthE ys k
        · have H := Lib.hid (upToE_step hu he)
          rw [← he] at b1 b2 i3 i4 hS0
          clear hu he
          generalize nthE xs k = e1 at *
          obtain ⟨x1, y1⟩ := e1
          simp only at a1 a2 b1 b2 i1 i2 i3 i4 hS0
          go_wp2
          have hS := hS0
          refine wp_region_any (by kernel_rfl) (wpAny_of_held (S := fun w' => w'.cell? ⟨ga, oa + k * 2, none⟩ = some (.int .i64 x1) ∧ w'.cell? ⟨ga, oa + k * 2 + 1, none⟩ = some (.int .i64 y1) ∧ w'.cell? ⟨gb, ob + k * 2, none⟩ = some (.int .i64 x1) ∧ w'.cell? ⟨gb, ob + k * 2 + 1, none⟩ = some (.int .i64 y1)) _ _ _ _ ?_)
          refine wpAnyH_take (i := 0) (v := ?_) rfl (by kernel_rfl) (by kernel_rfl) (by kernel_rfl) (fun _ _ _ h => h) (Or.inl ⟨by rfl, ?_⟩) (by assumption) ?_
          rotate_left
          · (intro w hSw; (try dsimp only at hSw); go_simp; (try with_reducible rfl))
          simp only [Act.put, List.setIfInBounds_toArray, List.set_cons_zero, List.set_cons_succ]
          refine wpAnyH_take (i := 1) (v := ?_) rfl (by kernel_rfl) (by kernel_rfl) (by kernel_rfl) (fun _ _ _ h => h) (Or.inl ⟨by rfl, ?_⟩) (by assumption) ?_
          rotate_left
          · (intro w hSw; (try dsimp only at hSw); go_simp; (try with_reducible rfl))
          simp only [Act.put, List.setIfInBounds_toArray, List.set_cons_zero, List.set_cons_succ]
          refine wpAnyH_take (i := 2) (v := ?_) rfl (by kernel_rfl) (by kernel_rfl) (by kernel_rfl) (fun _ _ _ h => h) (Or.inl ⟨by rfl, ?_⟩) (by assumption) ?_
          rotate_left
          · (intro w hSw; (try dsimp only at hSw); go_simp; (try with_reducible rfl))
          simp only [Act.put, List.setIfInBounds_toArray, List.set_cons_zero, List.set_cons_succ]
          refine wpAnyH_take (i := 3) (v := ?_) rfl (by kernel_rfl) (by kernel_rfl) (by kernel_rfl) (fun _ _ _ h => h) (Or.inl ⟨by rfl, ?_⟩) (by assumption) ?_
          rotate_left
          · (intro w hSw; (try dsimp only at hSw); go_simp; (try with_reducible rfl))
          simp only [Act.put, List.setIfInBounds_toArray, List.set_cons_zero, List.set_cons_succ]
          refine wpAnyH_take (i := 4) (v := ?_) rfl (by kernel_rfl) (by kernel_rfl) (by kernel_rfl) (fun _ _ _ h => h) (Or.inl ⟨by rfl, ?_⟩) (by assumption) ?_
          rotate_left
          · (intro w hSw; (try dsimp only at hSw); go_simp; (try with_reducible rfl))
          simp only [Act.put, List.setIfInBounds_toArray, List.set_cons_zero, List.set_cons_succ]
          refine wpAnyH_take (i := 5) (v := ?_) rfl (by kernel_rfl) (by kernel_rfl) (by kernel_rfl) (fun _ _ _ h => h) (Or.inl ⟨by rfl, ?_⟩) (by assumption) ?_
          rotate_left
          · (intro w hSw; (try dsimp only at hSw); go_simp; (try with_reducible rfl))
          simp only [Act.put, List.setIfInBounds_toArray, List.set_cons_zero, List.set_cons_succ]
          refine wpAnyH_take (i := 6) (v := ?_) rfl (by kernel_rfl) (by kernel_rfl) (by kernel_rfl) (fun _ _ _ h => h) (Or.inl ⟨by rfl, ?_⟩) (by assumption) ?_
          rotate_left
          · (intro w hSw; (try dsimp only at hSw); go_simp; (try with_reducible rfl))
          simp only [Act.put, List.setIfInBounds_toArray, List.set_cons_zero, List.set_cons_succ]
          refine wpAnyH_take (i := 7) (v := ?_) rfl (by kernel_rfl) (by kernel_rfl) (by kernel_rfl) (fun _ _ _ h => h) (Or.inl ⟨by rfl, ?_⟩) (by assumption) ?_
          rotate_left
          · (intro w hSw; (try dsimp only at hSw); go_simp; (try with_reducible rfl))
          simp only [Act.put, List.setIfInBounds_toArray, List.set_cons_zero, List.set_cons_succ]
          refine wpAnyH_take (i := 8) (v := .bool false) rfl (by kernel_rfl) (by kernel_rfl) (by kernel_rfl) (fun _ _ _ h => h) (Or.inl ⟨by rfl, ?_⟩) (by assumption) ?_
          · intro w hSw
            go_simp
          simp only [Act.put, List.setIfInBounds_toArray, List.set_cons_zero, List.set_cons_succ, List.getElem_toArray, List.getElem_cons_succ, List.getElem_cons_zero]
          refine wpAnyH_done (by kernel_rfl) ?_ _
          clear hS hS0 hwk hkb
          go_wp2
          go_roundw
          case rel => exact ⟨k + 1, by omega, by go_num, hd.more _, H.out⟩
          case measure => simp [intOf]; omega
        · have H := Lib.hid (show decide (xs = ys) = false by simp; rintro rfl; exact he rfl)
          clear hu
          generalize nthE xs k = e1 at *
          generalize nthE ys k = e0 at *
          obtain ⟨x1, y1⟩ := e1
          obtain ⟨x0, y0⟩ := e0
          have he := Lib.hid he
          simp only at a1 a2 b1 b2 i1 i2 i3 i4 hS0
          go_wp2
          have hS := hS0
          refine wp_region_any (by kernel_rfl) (wpAny_of_held (S := fun w' => w'.cell? ⟨ga, oa + k * 2, none⟩ = some (.int .i64 x1) ∧ w'.cell? ⟨ga, oa + k * 2 + 1, none⟩ = some (.int .i64 y1) ∧ w'.cell? ⟨gb, ob + k * 2, none⟩ = some (.int .i64 x0) ∧ w'.cell? ⟨gb, ob + k * 2 + 1, none⟩ = some (.int .i64 y0)) _ _ _ _ ?_)
          refine wpAnyH_take (i := 0) (v := ?_) rfl (by kernel_rfl) (by kernel_rfl) (by kernel_rfl) (fun _ _ _ h => h) (Or.inl ⟨by rfl, ?_⟩) (by assumption) ?_
          rotate_left
          · (intro w hSw; (try dsimp only at hSw); go_simp; (try with_reducible rfl))
          simp only [Act.put, List.setIfInBounds_toArray, List.set_cons_zero, List.set_cons_succ]
          refine wpAnyH_take (i := 1) (v := ?_) rfl (by kernel_rfl) (by kernel_rfl) (by kernel_rfl) (fun _ _ _ h => h) (Or.inl ⟨by rfl, ?_⟩) (by assumption) ?_
          rotate_left
          · (intro w hSw; (try dsimp only at hSw); go_simp; (try with_reducible rfl))
          simp only [Act.put, List.setIfInBounds_toArray, List.set_cons_zero, List.set_cons_succ]
          refine wpAnyH_take (i := 2) (v := ?_) rfl (by kernel_rfl) (by kernel_rfl) (by kernel_rfl) (fun _ _ _ h => h) (Or.inl ⟨by rfl, ?_⟩) (by assumption) ?_
          rotate_left
          · (intro w hSw; (try dsimp only at hSw); go_simp; (try with_reducible rfl))
          simp only [Act.put, List.setIfInBounds_toArray, List.set_cons_zero, List.set_cons_succ]
          refine wpAnyH_take (i := 3) (v := ?_) rfl (by kernel_rfl) (by kernel_rfl) (by kernel_rfl) (fun _ _ _ h => h) (Or.inl ⟨by rfl, ?_⟩) (by assumption) ?_
          rotate_left
          · (intro w hSw; (try dsimp only at hSw); go_simp; (try with_reducible rfl))
          simp only [Act.put, List.setIfInBounds_toArray, List.set_cons_zero, List.set_cons_succ]
          refine wpAnyH_take (i := 4) (v := ?_) rfl (by kernel_rfl) (by kernel_rfl) (by kernel_rfl) (fun _ _ _ h => h) (Or.inl ⟨by rfl, ?_⟩) (by assumption) ?_
          rotate_left
          · (intro w hSw; (try dsimp only at hSw); go_simp; (try with_reducible rfl))
          simp only [Act.put, List.setIfInBounds_toArray, List.set_cons_zero, List.set_cons_succ]
          refine wpAnyH_take (i := 5) (v := ?_) rfl (by kernel_rfl) (by kernel_rfl) (by kernel_rfl) (fun _ _ _ h => h) (Or.inl ⟨by rfl, ?_⟩) (by assumption) ?_
          rotate_left
          · (intro w hSw; (try dsimp only at hSw); go_simp; (try with_reducible rfl))
          simp only [Act.put, List.setIfInBounds_toArray, List.set_cons_zero, List.set_cons_succ]
          refine wpAnyH_take (i := 6) (v := ?_) rfl (by kernel_rfl) (by kernel_rfl) (by kernel_rfl) (fun _ _ _ h => h) (Or.inl ⟨by rfl, ?_⟩) (by assumption) ?_
          rotate_left
          · (intro w hSw; (try dsimp only at hSw); go_simp; (try with_reducible rfl))
          simp only [Act.put, List.setIfInBounds_toArray, List.set_cons_zero, List.set_cons_succ]
          refine wpAnyH_take (i := 7) (v := ?_) rfl (by kernel_rfl) (by kernel_rfl) (by kernel_rfl) (fun _ _ _ h => h) (Or.inl ⟨by rfl, ?_⟩) (by assumption) ?_
          rotate_left
          · (intro w hSw; (try dsimp only at hSw); go_simp; (try with_reducible rfl))
          simp only [Act.put, List.setIfInBounds_toArray, List.set_cons_zero, List.set_cons_succ]
          refine wpAnyH_take (i := 8) (v := .bool true) rfl (by kernel_rfl) (by kernel_rfl) (by kernel_rfl) (fun _ _ _ h => h) (Or.inl ⟨by rfl, ?_⟩) (by assumption) ?_
          · intro w hSw
            go_simp
            exact fun h1 h2 => he.out (by rw [h1, h2])
          simp only [Act.put, List.setIfInBounds_toArray, List.set_cons_zero, List.set_cons_succ, List.getElem_toArray, List.getElem_cons_succ, List.getElem_cons_zero]
          refine wpAnyH_done (by kernel_rfl) ?_ _
          clear hS hS0 hwk hkb
          go_wp2
          go_ret
          exact ⟨by rw [H.out]; rfl, hd.more _⟩
      · have H := Lib.hid (show decide (xs = ys) = true by simp; exact upToE_all (by rw [hla.out, hlb.out]) (fun j hj => hu j (by have := hla.out; omega)))
        clear hu
        go_wp2
        go_ret
        exact ⟨by rw [H.out]; rfl, hd⟩
  · have h' : ((n : Int) != (m : Int)) = true := by simp; omega
    have H := Lib.hid (show decide (xs = ys) = false by simp; rintro rfl; exact h (hla.out.symm.trans hlb.out))
    clear h
    go_enter Tryz.func36, Tryz.ntmps36
    go_wp2
    go_ret
    exact ⟨by rw [H.out]; rfl, Drawn.refl _⟩
/-- two graphs are the same -/
def sameG (cs : List Int) (es : List Ed) (cs' : List Int) (es' : List Ed) : Bool := decide (cs = cs') && decide (es = es')
set_option maxHeartbeats 1000000 in
theorem sameGraph_any (A : Option Addr) (n c : Nat) (F : Option Addr) (m d : Nat) (cs : List Int) (es : List Ed) (A' : Option Addr) (n' c' : Nat) (F' : Option Addr) (m' d' : Nat) (cs' : List Int) (es' : List Ed) (w : World) (ha : RG w A n F m cs es) (hb : RG w A' n' F' m' cs' es') (hn : n ≤ 4398046511104) (hn' : n' ≤ 4398046511104) (hm : m ≤ 4398046511104) (hm' : m' ≤ 4398046511104) :
    Calls Tryz.prog 20 #[.agg #[.slice A n c, .slice F m d], .agg #[.slice A' n' c', .slice F' m' d']] w (fun e w' => e = .returned (.bool (sameG cs es cs' es')) ∧ Below w.heap.size w w') := by
  have hb1 := below_then (below_alloc w (.cells #[.slice A n c, .slice F m d] 36)) (below_alloc _ (.cells #[.slice A' n' c', .slice F' m' d'] 36))
  have ha1 := ha.keep hb1
  have ha2 := hb.keep hb1
  have heq := slicesEqual_any A A' n n' c c' cs cs' _ ha1.ri ha2.ri (by omega) (by omega)
  have hee := fun (q : Nat) => equalE_any F F' m m' d d' es es' _ (ha1.re.drewN q) (ha2.re.drewN q) hm hm'
  cases hc : decide (cs = cs') with
  | true =>
    have H := Lib.hid (show sameG cs es cs' es' = decide (es = es') by rw [sameG, hc, Bool.true_and])
    rw [hc] at heq
    have HE := Lib.hid hee
    clear hc hee
    go_enter Tryz.func20, Tryz.ntmps20
    go_wp2_with (first | (go_at_call 35; refine heq.mono ?_; rintro e w1 ⟨rfl, ⟨q, rfl⟩⟩) | (go_at_call 36; refine (HE.out q).mono ?_; rintro e w2 ⟨rfl, ⟨q2, rfl⟩⟩))
    go_ret
    exact ⟨by rw [H.out]; rfl, hb1.trans (below_drewn' _ _ _)⟩
  | false =>
    have H := Lib.hid (show sameG cs es cs' es' = false by rw [sameG, hc, Bool.false_and])
    rw [hc] at heq
    clear hc hee
    go_enter Tryz.func20, Tryz.ntmps20
    go_wp2_with (go_at_call 35; refine heq.mono ?_; rintro e w1 ⟨rfl, ⟨q, rfl⟩⟩)
    go_ret
    exact ⟨by rw [H.out]; rfl, hb1.trans (below_drewn' _ _ _)⟩
end Go.Proofs.YtncknfhfkmmhbaaGreat
