/- The search for a difference set, its walk. No condition beyond those stated. -/
import Derived.Test.YtnfddnideaakgaaZAP
import Derived.Deep.DeepCutAuto
import Derived.Deep.RegionHeldLaw
set_option linter.unusedVariables false
set_option linter.unusedSimpArgs false
namespace Go.Proofs.Ytnfddnideaakgaa
open Go.RowKit

/-- the searcher in memory -/
def FB (w : World) (g : Nat) (c : CSt) (n k lam : Int) : Prop := Blk w g 63 #[.int .i64 (c.1 : Int), .bool c.2, .int .i64 n, .int .i64 k, .int .i64 lam]
theorem FB.cells {w : World} {g : Nat} {c : CSt} {n k lam : Int} (h : FB w g c n k lam) : w.cell? ⟨g, 0, none⟩ = some (.int .i64 (c.1 : Int)) ∧ w.cell? ⟨g, 1, none⟩ = some (.bool c.2) ∧ w.cell? ⟨g, 2, none⟩ = some (.int .i64 n) ∧ w.cell? ⟨g, 3, none⟩ = some (.int .i64 k) ∧ w.cell? ⟨g, 4, none⟩ = some (.int .i64 lam) :=
  ⟨h.cell 0, h.cell 1, h.cell 2, h.cell 3, h.cell 4⟩
/-- what a search hands back -/
def RetF (w : World) (g : Nat) (n k lam : Int) (r : Option (List Int) × CSt) (e : Ending) (w' : World) : Prop :=
  ∃ (A : Option Addr) (m c : Nat), e = .returned (.tuple #[.slice A m c, .bool r.1.isSome]) ∧ (∀ s, r.1 = some s → OI w' (g + 1) 2 A m c s) ∧ FB w' g r.2 n k lam ∧ Mid w w' g (g + 1)
theorem RetF.before {w0 w w' : World} {g : Nat} {n k lam : Int} {r : Option (List Int) × CSt} {e : Ending} (h : RetF w g n k lam r e w') (hm : Mid w0 w g (g + 1)) : RetF w0 g n k lam r e w' := by
  obtain ⟨A, m, c, h1, h2, h3, h4⟩ := h
  exact ⟨A, m, c, h1, h2, h3, hm.trans h4⟩
set_option maxHeartbeats 1000000 in
theorem nodeF_any (w : World) (g : Nat) (l : Nat) (n k lam : Int) (X : FB w g (l, false) n k lam) (hl : l ≤ 1048576) :
    Calls Try.prog 48 #[.pointer (some ⟨g, 0, none⟩)] w (fun e w' => e = .returned (.bool (decide (l ≠ 0))) ∧ FB w' g (if l = 0 then (0, true) else (l - 1, false)) n k lam ∧ Mid w w' g (g + 1)) := by
  obtain ⟨h0, h1, -, -, -⟩ := X.cells
  have f0 := X.frozen 0
  have f1 := X.frozen 1
  by_cases h : l = 0
  · subst h
    rw [if_pos rfl]
    go_enter Try.func48, Try.ntmps48
    go_wp2
    go_ret
    exact ⟨rfl, Blk.set_ X 1 (.bool true), Mid.grown grown_set (fun b e => by injection e with e; omega)⟩
  · have h' : ((l : Int) == 0) = false := by simp; omega
    have hd : decide (l ≠ 0) = true := by simp [h]
    have hc : ((l - 1 : Nat) : Int) = (l : Int) - 1 := by omega
    have HX := Lib.hid (show FB (w.setCell ⟨g, 0, none⟩ (.int .i64 ((l : Int) - 1))) g (l - 1, false) n k lam from by
      have := Blk.set_ X 0 (.int .i64 ((l : Int) - 1))
      unfold FB
      rw [hc]
      exact this)
    rw [hd, if_neg h]
    clear h hd hc
    go_enter Try.func48, Try.ntmps48
    go_wp2
    go_ret
    exact ⟨rfl, HX.out, Mid.grown grown_set (fun b e => by injection e with e; omega)⟩
theorem sizF_any (A : Option Addr) (n c : Nat) (w : World) (_ : n ≤ 9223372036854775807) : Calls Try.prog 50 #[.slice A n c] w fun e w' => e = .returned (.int .i64 n) ∧ w = w' := by
  go_enter Try.func50, Try.ntmps50
  go_wp2
  go_ret
  exact ⟨rfl, rfl⟩
set_option maxRecDepth 100000 in
set_option maxHeartbeats 8000000 in
theorem search_any (g n k : Nat) (lam : Int) (hn2 : 2 ≤ n) (hn : n ≤ 32) (hk : k ≤ 32) : ∀ (d : Nat) (s : List Int) (A : Option Addr) (m c : Nat) (st : CSt) (w : World), FB w g st n k lam → OI w (g + 1) 2 A m c s → ResL n s → s.length ≤ k → k < s.length + d → st.1 ≤ 1048576 →
    Calls Try.prog 36 #[.pointer (some ⟨g, 0, none⟩), .slice A m c] w (RetF w g n k lam (srchF n k lam d s st)) := by
  intro d
  induction d with
  | zero => intro s A m c st w _ _ _ h1 h2; omega
  | succ d ih =>
    intro s A m c st w X ho hs hsk hkd hl
    obtain ⟨l, sp⟩ := st
    have hl : l ≤ 1048576 := hl
    have hlm := ho.len
    have hs1 := hs.1
    have hs2 := hs.2.1
    cases sp with
    | true =>
      have HR := Lib.hid (show srchF n k lam (d + 1) s (l, true) = (none, (l, true)) by simp [srchF])
      obtain ⟨x0, x1, x2, x3, x4⟩ := X.cells
      go_enter Try.func36, Try.ntmps36
      go_wp2
      go_ret2
      rw [HR.out]
      exact ⟨none, 0, 0, rfl, (fun s h => by cases h), X, Mid.refl _ _ _⟩
    | false =>
      obtain ⟨x0, x1, x2, x3, x4⟩ := X.cells
      have hnd := nodeF_any w g l n k lam X hl
      by_cases h0 : l = 0
      · subst h0
        have HR := Lib.hid (show srchF n k lam (d + 1) s (0, false) = (none, (0, true)) by simp [srchF])
        rw [if_pos rfl] at hnd
        go_enter Try.func36, Try.ntmps36
        go_wp2_with fail
        refine hnd.mono ?_
        rintro e w1 ⟨rfl, X1, hm1⟩
        go_wp2
        go_ret2
        rw [HR.out]
        exact ⟨none, 0, 0, rfl, (fun s h => by cases h), X1, hm1⟩
      · rw [if_neg h0, show decide (l ≠ 0) = true by simp [h0]] at hnd
        have hcell : (w.cell? ⟨g, 1, none⟩ = some (.bool false)) := x1
        have HS := show srchF n k lam (d + 1) s (l, false) = (if maxU (cntT n (difS n s s.length)) (n - 1) > lam then (none, (l - 1, false)) else if s.length = k then (some s, (l - 1, false)) else loopF (srchF n k lam d) s ((List.range n).drop (lastK s + 1)) (l - 1, false)) by rw [srchF, if_neg (by simp), if_neg h0]
        generalize hRR : srchF n k lam (d + 1) s (l, false) = R at *
        obtain ⟨M, hM⟩ : ∃ M, maxU (cntT n (difS n s s.length)) (n - 1) = M := ⟨_, rfl⟩
        rw [hM] at HS
        have HM := Lib.hid hM
        have HR1 := Lib.hid (fun (h : M > lam) => show R = (none, (l - 1, false)) by rw [HS, if_pos h])
        have HR2 := Lib.hid (fun (h : ¬ M > lam) (h2 : s.length = k) => show R = (some s, (l - 1, false)) by rw [HS, if_neg h, if_pos h2])
        have HR3 := Lib.hid (fun (h : ¬ M > lam) (h2 : ¬ s.length = k) => show loopF (srchF n k lam d) s ((List.range n).drop (lastK s + 1)) (l - 1, false) = R by rw [HS, if_neg h, if_neg h2])
        clear HS hRR hM
        go_enter Try.func36, Try.ntmps36
        go_wp2_with fail
        refine hnd.mono ?_
        rintro e w1 ⟨rfl, X1, hm1⟩
        have ho1 := ho.mid hm1 (fun b hb => by have := (ho.os.lt hb).1; omega)
        have hcap := ho.os.cap
        obtain ⟨y0, y1, y2, y3, y4⟩ := X1.cells
        generalize hl1 : l - 1 = l1 at *
        have hl1' : l1 ≤ 1048576 := by omega
        clear hnd X ho x0 x1 x2 x3 x4 hcell h0 hl1
        go_upto_region 3 with (fail)
        go_cut [33] (fun v wx => v = .bool (decide (M > lam)) ∧ Below w1.heap.size w1 wx)
        case first =>
          have hdrw := below_drewn w1 1
          rw [← World.drew_is_drewN] at hdrw
          have HL := Lib.hid (fun (W : World) (h : Below w1.heap.size w1 W) => show W.cell? ⟨g, 2, none⟩ = some (.int .i64 (n : Int)) ∧ W.cell? ⟨g, 4, none⟩ = some (.int .i64 lam) from ⟨below_cell h y2, below_cell h y4⟩)
          have HI := Lib.hid ho1.reads
          refine wp_region_held_drew (S := fun w' => w'.cell? ⟨g, 2, none⟩ = some (.int .i64 (n : Int)) ∧ w'.cell? ⟨g, 4, none⟩ = some (.int .i64 lam)) (by kernel_rfl) (by simpa using ⟨y2, y4⟩) ?_
          intro hS
          clear y0 y1 y2 y3 y4 ho1 X1 hm1 ih
          refine wpAnyH_take (i := 0) (v := ?_) rfl (by kernel_rfl) (by kernel_rfl) (by kernel_rfl) (fun _ _ _ h => h) (Or.inl ⟨by rfl, ?_⟩) (by assumption) ?_
          rotate_left
          · (intro w hSw; (try dsimp only at hSw); go_simp; (try with_reducible rfl))
          simp only [Act.put, List.setIfInBounds_toArray, List.set_cons_zero, List.set_cons_succ]
          refine wpAnyH_take (i := 1) (v := ?_) rfl (by kernel_rfl) (by kernel_rfl) (by kernel_rfl) (fun _ _ _ h => h) (Or.inl ⟨by rfl, ?_⟩) (by assumption) ?_
          rotate_left
          · (intro w hSw; (try dsimp only at hSw); go_simp; (try with_reducible rfl))
          simp only [Act.put, List.setIfInBounds_toArray, List.set_cons_zero, List.set_cons_succ]
          refine wpAnyH_take (i := 2) (v := ?_) rfl (by kernel_rfl) (by kernel_rfl) (by kernel_rfl) (fun _ _ _ h => h) (Or.inl ⟨by rfl, ?_⟩) (by assumption) ?_
          rotate_left
          · (intro w hSw; (try dsimp only at hSw); go_simp; (try with_reducible rfl))
          simp only [Act.put, List.setIfInBounds_toArray, List.set_cons_zero, List.set_cons_succ]
          refine wpAnyH_take (i := 3) (v := ?_) rfl (by kernel_rfl) (by kernel_rfl) (by kernel_rfl) (fun _ _ _ h => h) (Or.inl ⟨by rfl, ?_⟩) (by assumption) ?_
          rotate_left
          · (intro w hSw; (try dsimp only at hSw); go_simp; (try with_reducible rfl))
          simp only [Act.put, List.setIfInBounds_toArray, List.set_cons_zero, List.set_cons_succ]
          refine wpAnyH_take (i := 4) (v := ?_) rfl (by kernel_rfl) (by kernel_rfl) (by kernel_rfl) (fun _ _ _ h => h) (Or.inl ⟨by rfl, ?_⟩) (by assumption) ?_
          rotate_left
          · (intro w hSw; (try dsimp only at hSw); go_simp; (try with_reducible rfl))
          simp only [Act.put, List.setIfInBounds_toArray, List.set_cons_zero, List.set_cons_succ]
          refine wpAnyH_take (i := 8) (v := ?_) rfl (by kernel_rfl) (by kernel_rfl) (by kernel_rfl) (fun _ _ _ h => h) (Or.inl ⟨by rfl, ?_⟩) (by assumption) ?_
          rotate_left
          · (intro w hSw; (try dsimp only at hSw); go_simp; (try with_reducible rfl))
          simp only [Act.put, List.setIfInBounds_toArray, List.set_cons_zero, List.set_cons_succ]
          refine wpAnyH_take (i := 9) (v := ?_) rfl (by kernel_rfl) (by kernel_rfl) (by kernel_rfl) (fun _ _ _ h => h) (Or.inl ⟨by rfl, ?_⟩) (by assumption) ?_
          rotate_left
          · (intro w hSw; (try dsimp only at hSw); go_simp; (try with_reducible rfl))
          simp only [Act.put, List.setIfInBounds_toArray, List.set_cons_zero, List.set_cons_succ]
          refine wpAnyH_take (i := 10) (v := ?_) rfl (by kernel_rfl) (by kernel_rfl) (by kernel_rfl) (fun _ _ _ h => h) (Or.inl ⟨by rfl, ?_⟩) (by assumption) ?_
          rotate_left
          · (intro w hSw; (try dsimp only at hSw); go_simp; (try with_reducible rfl))
          simp only [Act.put, List.setIfInBounds_toArray, List.set_cons_zero, List.set_cons_succ]
          refine wpAnyH_take (i := 11) (v := ?_) rfl (by kernel_rfl) (by kernel_rfl) (by kernel_rfl) (fun _ _ _ h => h) (Or.inl ⟨by rfl, ?_⟩) (by assumption) ?_
          rotate_left
          · (intro w hSw; (try dsimp only at hSw); go_simp; (try with_reducible rfl))
          simp only [Act.put, List.setIfInBounds_toArray, List.set_cons_zero, List.set_cons_succ]
          generalize w1.drew = W at *
          refine wpAnyH_ready (rs := [5]) (by kernel_rfl) (by simp) ?_
          refine AllReadyH.cons rfl (fun K hK => ?_) AllReadyH.nil
          go_simp
          have hba := below_alloc W (.cells #[.slice A m c] 23)
          have hX2 := hdrw.trans (hba.mono hdrw.size)
          have hdt := diffTable_any n (some ⟨W.heap.size, 0, none⟩) 1 1 [s] _ (RR.one (HI.out.keep hdrw) hcap.1 hcap.2) (by omega) (by omega) hn hs.res
          rw [show ([s] : List (List Int)).length = 1 from rfl, difF_one] at hdt
          refine hK.out _ _ (HL.out _ hX2) (fun hS1 => ?_)
          clear hK K hS
          refine wpAnyH_ready (rs := [6]) (by kernel_rfl) (by simp) ?_
          refine AllReadyH.cons rfl (fun K hK => ?_) AllReadyH.nil
          go_simp
          refine hdt.mono ?_
          rintro e w3 ⟨T, tn, tc, rfl, hot, hb3⟩
          dsimp only
          have hX3 := hX2.trans (hb3.mono hX2.size)
          have htn := hot.len
          rw [cntT_len] at htn
          have hmx := slicesMax_any T tn tc _ w3 hot.reads (by omega) (by omega)
          rw [show tn - 1 = n - 1 by omega, HM.out] at hmx
          clear htn
          refine hK.out _ _ (HL.out _ hX3) (fun hS2 => ?_)
          clear hK K hS1 hdt
          refine wpAnyH_ready (rs := [7]) (by kernel_rfl) (by simp) ?_
          refine AllReadyH.cons rfl (fun K hK => ?_) AllReadyH.nil
          go_simp
          refine hmx.mono ?_
          rintro e w4 ⟨rfl, rfl⟩
          dsimp only
          refine hK.out _ _ hS2 (fun hS3 => ?_)
          clear hK K hS2
          refine wpAnyH_take (i := 12) (v := ?_) rfl (by kernel_rfl) (by kernel_rfl) (by kernel_rfl) (fun _ _ _ h => h) (Or.inl ⟨by rfl, ?_⟩) (by assumption) ?_
          rotate_left
          · (intro w hSw; (try dsimp only at hSw); go_simp; (try with_reducible rfl))
          simp only [Act.put, List.setIfInBounds_toArray, List.set_cons_zero, List.set_cons_succ]
          simp only [List.getElem_toArray, List.getElem_cons_succ, List.getElem_cons_zero, Act.put, List.setIfInBounds_toArray, List.set_cons_zero, List.set_cons_succ]
          refine wpAnyH_done (by kernel_rfl) ?_ _
          go_wp2
          go_meet
          exact ⟨rfl, hX3⟩
        case rest =>
          obtain ⟨rfl, hbx⟩ := hcut
          have X2 : FB _ g (l1, false) n k lam := Blk.after X1 hbx
          have ho2 := ho1.below hbx
          have hm2 := hm1.trans (Mid.of_below hbx (Nat.le_refl _) g (g + 1))
          clear X1 ho1 hm1 hbx y0 y1 y2 y3 y4
          by_cases hgt : M > lam
          · have hd1 : decide (M > lam) = true := by simp [hgt]
            have HR := Lib.hid (HR1.out (by omega))
            rw [hd1]
            clear hgt hd1
            go_wp2
            go_ret2
            rw [HR.out]
            exact ⟨none, 0, 0, rfl, (fun s h => by cases h), X2, hm2⟩
          · have hd1 : decide (M > lam) = false := by simp [hgt]
            rw [hd1]
            have HR2' := Lib.hid (HR2.out (by omega))
            have HR3' := Lib.hid (HR3.out (by omega))
            clear hgt hd1 HR1 HR2 HR3
            obtain ⟨y0, y1, y2, y3, y4⟩ := X2.cells
            go_upto_region 5 with (fail)
            go_cut [40] (fun v wx => v = .bool ((m : Int) == (k : Int)) ∧ Below wc.heap.size wc wx)
            case first =>
              have hdrw := below_drewn wc 1
              rw [← World.drew_is_drewN] at hdrw
              refine wp_region_held_drew (S := fun w' => w'.cell? ⟨g, 3, none⟩ = some (.int .i64 (k : Int))) (by kernel_rfl) (by simpa using y3) ?_
              intro hS
              clear y0 y1 y2 y3 y4 ho2 X2 hm2 ih
              refine wpAnyH_take (i := 0) (v := ?_) rfl (by kernel_rfl) (by kernel_rfl) (by kernel_rfl) (fun _ _ _ h => h) (Or.inl ⟨by rfl, ?_⟩) (by assumption) ?_
              rotate_left
              · (intro w hSw; (try dsimp only at hSw); go_simp; (try with_reducible rfl))
              simp only [Act.put, List.setIfInBounds_toArray, List.set_cons_zero, List.set_cons_succ]
              refine wpAnyH_take (i := 2) (v := ?_) rfl (by kernel_rfl) (by kernel_rfl) (by kernel_rfl) (fun _ _ _ h => h) (Or.inl ⟨by rfl, ?_⟩) (by assumption) ?_
              rotate_left
              · (intro w hSw; (try dsimp only at hSw); go_simp; (try with_reducible rfl))
              simp only [Act.put, List.setIfInBounds_toArray, List.set_cons_zero, List.set_cons_succ]
              refine wpAnyH_take (i := 3) (v := ?_) rfl (by kernel_rfl) (by kernel_rfl) (by kernel_rfl) (fun _ _ _ h => h) (Or.inl ⟨by rfl, ?_⟩) (by assumption) ?_
              rotate_left
              · (intro w hSw; (try dsimp only at hSw); go_simp; (try with_reducible rfl))
              simp only [Act.put, List.setIfInBounds_toArray, List.set_cons_zero, List.set_cons_succ]
              refine wpAnyH_take (i := 4) (v := ?_) rfl (by kernel_rfl) (by kernel_rfl) (by kernel_rfl) (fun _ _ _ h => h) (Or.inl ⟨by rfl, ?_⟩) (by assumption) ?_
              rotate_left
              · (intro w hSw; (try dsimp only at hSw); go_simp; (try with_reducible rfl))
              simp only [Act.put, List.setIfInBounds_toArray, List.set_cons_zero, List.set_cons_succ]
              refine wpAnyH_take (i := 5) (v := ?_) rfl (by kernel_rfl) (by kernel_rfl) (by kernel_rfl) (fun _ _ _ h => h) (Or.inl ⟨by rfl, ?_⟩) (by assumption) ?_
              rotate_left
              · (intro w hSw; (try dsimp only at hSw); go_simp; (try with_reducible rfl))
              simp only [Act.put, List.setIfInBounds_toArray, List.set_cons_zero, List.set_cons_succ]
              generalize wc.drew = W at *
              refine wpAnyH_ready (rs := [1]) (by kernel_rfl) (by simp) ?_
              refine AllReadyH.cons rfl (fun K hK => ?_) AllReadyH.nil
              go_simp
              refine (sizF_any A m c W (by omega)).mono ?_
              rintro e w4 ⟨rfl, rfl⟩
              dsimp only
              refine hK.out _ _ hS (fun hS3 => ?_)
              clear hK K hS
              refine wpAnyH_take (i := 6) (v := ?_) rfl (by kernel_rfl) (by kernel_rfl) (by kernel_rfl) (fun _ _ _ h => h) (Or.inl ⟨by rfl, ?_⟩) (by assumption) ?_
              rotate_left
              · (intro w hSw; (try dsimp only at hSw); go_simp; (try with_reducible rfl))
              simp only [Act.put, List.setIfInBounds_toArray, List.set_cons_zero, List.set_cons_succ]
              simp only [List.getElem_toArray, List.getElem_cons_succ, List.getElem_cons_zero, Act.put, List.setIfInBounds_toArray, List.set_cons_zero, List.set_cons_succ]
              refine wpAnyH_done (by kernel_rfl) ?_ _
              go_wp2
              go_meet
              exact ⟨rfl, hdrw⟩
            case rest =>
              obtain ⟨rfl, hbx⟩ := hcut
              have X3 : FB _ g (l1, false) n k lam := Blk.after X2 hbx
              have ho3 := ho2.below hbx
              have hm3 := hm2.trans (Mid.of_below hbx (Nat.le_refl _) g (g + 1))
              clear X2 ho2 hm2 hbx y0 y1 y2 y3 y4
              obtain ⟨y0, y1, y2, y3, y4⟩ := X3.cells
              by_cases hmk : m = k
              · have HR := Lib.hid (HR2'.out (by omega))
                have e1 : ((m : Int) == (k : Int)) = true := by simp; omega
                rw [e1]
                clear hmk e1
                go_wp2
                go_ret2
                rw [HR.out]
                exact ⟨A, m, c, rfl, (fun s' h => by cases h; exact ho3), X3, hm3⟩
              · have HR := Lib.hid (HR3'.out (by omega))
                have e1 : ((m : Int) == (k : Int)) = false := by simp; omega
                rw [e1]
                have hmk' : m < k := by omega
                obtain ⟨y, hy, hyn⟩ := hs.2.2 (m - 1) (by omega)
                have hlast : lastK s = y := by unfold lastK; rw [hlm, hy]; simp
                rw [hlast] at HR
                obtain ⟨gs, rfl, cs, -, -⟩ := ho3.cell (k := m - 1) (by omega)
                rw [hy] at cs
                have sk : IntKind.i64.wrap ((m : Int) - 1) = (m : Int) - 1 := IntWalk.i64_in _ (by omega)
                have e0 : 0 ≤ (m : Int) - 1 := by omega
                have e1' : (m : Int) - 1 < m := by omega
                have e2 : ((m : Int) - 1).toNat = m - 1 := by omega
                have sk2 : IntKind.i64.wrap ((y : Int) + 1) = (y : Int) + 1 := IntWalk.i64_in _ (by omega)
                have hxs : y + 1 ≤ n := by omega
                have hmg := X3.lt
                clear hmk e1 hlast hy y0 y1 y2 y3 y4 HR2' HR3'
                generalize hWX : wc = WX at *
                clear hWX
                go_wp2
                go_loopw [6] (fun xv wr => ∃ (x : Nat) (st : CSt), xv = .int .i64 x ∧ x ≤ n ∧ loopF (srchF n k lam d) s ((List.range n).drop x) st = R ∧ st.1 ≤ 1048576 ∧ FB wr g st n k lam ∧ Mid WX wr g (g + 1)) (fun xv _ => n - (intOf xv).toNat)
                case atStart => exact ⟨y + 1, (l1, false), by go_num, hxs, HR.out, hl1', X3, Mid.refl _ _ _⟩
                case round =>
                  clear X3 HR cs
                  obtain ⟨x, st, rfl, hx, hR, hst, X4, hm4⟩ := hrel
                  obtain ⟨y0, y1, y2, y3, y4⟩ := X4.cells
                  by_cases hlt : x < n
                  · have ho4 := ho3.mid hm4 (fun b hb => by have := (ho3.os.lt hb).1; omega)
                    have hcl := clone_any _ m c s wr ho4.reads (by omega)
                    have hgr := X4.lt
                    have hki : I64 (x : Int) := by unfold I64; omega
                    have HD := range_drop hlt
                    rw [HD] at hR
                    have HRR := Lib.hid hR
                    have hsn := hs.snoc (x := x) (by omega) hlt
                    clear hR HD
                    go_wp2_with (first | (go_at_call 32; refine hcl.mono ?_; rintro e w5 ⟨B5, b5, c5, rfl, ho5, hb5⟩; have hl5 := ho5.len; have ho5' := ho5.more (show g + 1 ≤ wr.heap.size by omega); have hs5 := hb5.size) | (at_builtin; refine app_int _ rfl (.tmp 60) (.tmp 62) rfl (g + 1) B5 b5 c5 s rfl ho5' (x : Int) w5.heap.size rfl rfl hki (by omega) (by omega) ?_; intro A6 c6 w6 ho6 hg6 hf6; have hb6 := below_own hb5 hg6 hs5 (fun q hq => (ho5.os.lt hq).1)))
                    have X6 : FB _ g st n k lam := Blk.after X4 hb6
                    have hlen : (s ++ [(x : Int)]).length = m + 1 := by rw [List.length_append, hlm]; rfl
                    have hih := ih (s ++ [(x : Int)]) A6 (b5 + 1) c6 st w6 X6 ho6 hsn (by omega) (by omega) hst
                    cases hq : srchF n k lam d (s ++ [(x : Int)]) st with
                    | mk o st2 =>
                      have hle := srchF_le n k lam d (s ++ [(x : Int)]) st
                      rw [hq] at hih hle
                      have hle : st2.1 ≤ st.1 := hle
                      have HL := HRR.out
                      rw [loopF, hq] at HL
                      have hm6 := hm4.trans (Mid.of_below hb6 (Nat.le_refl _) g (g + 1))
                      clear hcl ho4 ho5 ho5' hb5 hg6 hf6 X4 X6 y0 y1 y2 y3 y4 hq hb6 ih hm4 HRR
                      cases o with
                      | some r =>
                        have HL := Lib.hid (show (some r, st2) = R from HL)
                        refine hih.mono ?_
                        rintro e w7 ⟨A7, m7, c7, rfl, ho7, X7, hm7⟩
                        have ho7 := ho7 r rfl
                        dsimp only [Option.isSome]
                        go_wp2
                        go_ret2
                        rw [← HL.out]
                        exact ⟨A7, m7, c7, rfl, (fun s' h => by cases h; exact ho7), X7, hm3.trans (hm6.trans hm7)⟩
                      | none =>
                        have HL := Lib.hid (show loopF (srchF n k lam d) s ((List.range n).drop (x + 1)) st2 = R from HL)
                        refine hih.mono ?_
                        rintro e w7 ⟨A7, m7, c7, rfl, -, X7, hm7⟩
                        dsimp only [Option.isSome]
                        go_wp2
                        go_roundw
                        case rel => exact ⟨x + 1, st2, by go_num, by omega, HL.out, by omega, X7, hm6.trans hm7⟩
                        case measure => simp [intOf]; omega
                  · obtain rfl : x = n := by omega
                    rw [range_drop_all (Nat.le_refl _)] at hR
                    have HL := Lib.hid (show (none, st) = R from hR)
                    clear hR
                    go_wp2
                    go_ret2
                    rw [← HL.out]
                    exact ⟨none, 0, 0, rfl, (fun s' h => by cases h), X4, hm3.trans hm4⟩
end Go.Proofs.Ytnfddnideaakgaa
/- The first difference set, Singer's sets: the program's side. No condition beyond those stated. -/
namespace Go.Proofs.Ytnfddnideaakgaa
open Go.RowKit

/-- the sizes that are asked for -/
def PlN (n k : Nat) : Prop := (n = 7 ∧ k = 3) ∨ (n = 13 ∧ k = 4) ∨ (n = 21 ∧ k = 5)
theorem resL_zero {n : Nat} (h : 1 ≤ n) : ResL n [0] := ⟨by simp, by simp, fun i hi => ⟨0, by
  obtain rfl : i = 0 := by simpa using hi
  rfl, by omega⟩⟩
set_option maxRecDepth 100000 in
set_option maxHeartbeats 4000000 in
theorem firstDiff_ok (n k : Nat) (r : List Int) (st : CSt) (w : World) (h : PlN n k) (hF : srchF n k 1 (k + 1) [0] (20000, false) = (some r, st)) :
    Calls Try.prog 21 #[.int .i64 n, .int .i64 k, .int .i64 1, .int .i64 20000] w (RetIC w 2 r 0) := by
  have hX : FB (w.alloc (.cells #[.int .i64 20000, .bool false, .int .i64 n, .int .i64 k, .int .i64 1] 63)) w.heap.size (20000, false) n k 1 := Blk.new w 63 #[.int .i64 20000, .bool false, .int .i64 n, .int .i64 k, .int .i64 1]
  have hb1 := below_alloc w (.cells #[.int .i64 20000, .bool false, .int .i64 n, .int .i64 k, .int .i64 1] 63)
  have hz : (w.alloc (.cells #[.int .i64 20000, .bool false, .int .i64 n, .int .i64 k, .int .i64 1] 63)).heap.size = w.heap.size + 1 := by simp
  have ho := OI.lit (w.alloc (.cells #[.int .i64 20000, .bool false, .int .i64 n, .int .i64 k, .int .i64 1] 63)) (w.heap.size + 1) 2 [0] (by rw [hz]; exact Nat.le_refl _) (by simp) (fun z hz => by simp at hz; subst hz; unfold I64; omega)
  have hlit : (ints [0]).toArray = #[Value.int .i64 0] := rfl
  rw [hz, hlit] at ho
  have hb2 := below_alloc (w.alloc (.cells #[.int .i64 20000, .bool false, .int .i64 n, .int .i64 k, .int .i64 1] 63)) (.cells #[.int .i64 0] 2)
  have hX2 : FB _ w.heap.size (20000, false) n k 1 := Blk.after hX hb2
  have hb12 := hb1.trans (hb2.mono hb1.size)
  have hnk : 2 ≤ n ∧ n ≤ 32 ∧ 2 ≤ k ∧ k ≤ n := by unfold PlN at h; omega
  have hse := search_any w.heap.size n k 1 hnk.1 hnk.2.1 (by omega) (k + 1) [0] _ _ _ (20000, false) _ hX2 ho (resL_zero (by omega)) (by simp; omega) (by simp; omega) (by simp)
  rw [hF] at hse
  have hzz := hb12.size
  have i1 : inB (n : Int) 2 32 = true := inB_mk (by omega)
  have i2 : inB (k : Int) 2 (n : Int) = true := inB_mk (by omega)
  have i3 : inB (20000 : Int) 1 20000 = true := by decide
  have i4 : inB (1 : Int) 1 ((n : Int) - 1) = true := inB_mk (by unfold PlN at h; omega)
  have sk : IntKind.i64.wrap ((k : Int) - 1) = (k : Int) - 1 := IntWalk.i64_in _ (by omega)
  have sn : IntKind.i64.wrap ((n : Int) - 1) = (n : Int) - 1 := IntWalk.i64_in _ (by omega)
  have skk : IntKind.i64.wrap ((k : Int) * ((k : Int) - 1)) = (k : Int) * ((k : Int) - 1) := by rcases h with ⟨rfl, rfl⟩ | ⟨rfl, rfl⟩ | ⟨rfl, rfl⟩ <;> decide
  have en : (k : Int) * ((k : Int) - 1) = (n : Int) - 1 := by rcases h with ⟨rfl, rfl⟩ | ⟨rfl, rfl⟩ | ⟨rfl, rfl⟩ <;> decide
  have hp : 0 ≤ (k : Int) * ((k : Int) - 1) ∧ (k : Int) * ((k : Int) - 1) ≤ 31 := by rw [en]; omega
  obtain ⟨hp0, hp1⟩ := hp
  clear hX hX2 ho hF hz hb1 hb2 h
  go_enter Try.func21, Try.ntmps21
  go_wp2_with (first | (go_at_call 20; refine (within_any _ _ _ _).mono ?_; rintro e w' ⟨rfl, rfl⟩; first | rw [i1] | rw [i2] | rw [i4]) | (go_at_call 35; refine (isBudget_any _ _).mono ?_; rintro e w' ⟨rfl, rfl⟩; rw [i3]))
  clear i1 i2 i3 i4 sk sn skk en hp0 hp1 hlit
  generalize (w.alloc (.cells #[.int .i64 20000, .bool false, .int .i64 n, .int .i64 k, .int .i64 1] 63)).alloc (.cells #[.int .i64 0] 2) = W2 at *
  refine hse.mono ?_
  rintro e w3 ⟨A, m, c, rfl, ho3, -, hm3⟩
  have ho3 := ho3 r rfl
  have hm4 := hm3.below hzz
  dsimp only [Option.isSome]
  clear hse
  go_wp2
  go_ret2
  exact ⟨A, m, c, rfl, ho3.more (by omega), hb12.trans hm4⟩
end Go.Proofs.Ytnfddnideaakgaa
