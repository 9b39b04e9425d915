/- spec.l22DrawTwo. No condition beyond those stated. -/
import Derived.Test.YtfhaifgbjpobdaaGreatIM
import Derived.Deep.DeepCutAuto
import Derived.Test.YtfhaifgbjpobdaaGreatIL
set_option linter.unusedVariables false
set_option linter.unusedSimpArgs false
namespace Go.Proofs.YtfhaifgbjpobdaaGreat
open Go.RowKit

theorem Fin2.drew {w0 wr : World} {g q x y : Nat} {A : Option Addr} {n c : Nat} {F : Option Addr} {m d : Nat} {cs : List Int} {es : List Ed} {A' : Option Addr} {n' c' : Nat} {F' : Option Addr} {m' d' : Nat} {ds : List Int} {fs : List Ed}
    (h : Fin2 w0 wr g q x y A n c F m d cs es A' n' c' F' m' d' ds fs) : Fin2 w0 wr.drew g q x y A n c F m d cs es A' n' c' F' m' d' ds fs := by
  rw [World.drew_is_drewN]
  exact ⟨h.r.step (below_drewn _ 1), h.v.step (below_drewn _ 1), h.u.step (below_drewn _ 1)⟩
/-- behind the relabelled graph: a second variable -/
def Cut3 (w wx : World) (s5 : Value) (g p x : Nat) (A : Option Addr) (n c : Nat) (F : Option Addr) (m d : Nat) (cs : List Int) (es : List Ed) : Prop := ∃ y A2 n2 c2 F2 m2 d2 ds fs q, s5 = .pointer (some ⟨y, 0, none⟩) ∧
  R2 w wx g q #[.slice none 0 0, .slice none 0 0] #[.slice none 0 0, .slice none 0 0] ∧ VG w wx g x A n c F m d cs es ∧ VG w wx g y A2 n2 c2 F2 m2 d2 ds fs ∧ x ≠ y ∧ n2 ≤ 65 ∧ m2 ≤ 4097 ∧ q ≤ p
theorem cut3_done {w wr : World} {g q p x y : Nat} {A : Option Addr} {n c : Nat} {F : Option Addr} {m d : Nat} {cs : List Int} {es : List Ed} {A2 : Option Addr} {n2 c2 : Nat} {F2 : Option Addr} {m2 d2 : Nat} {ds : List Int} {fs : List Ed}
    (R : R2 w wr g q #[.slice none 0 0, .slice none 0 0] #[.slice none 0 0, .slice none 0 0]) (V : VG w wr g x A n c F m d cs es) (Y : Blk wr y 27 #[.slice none 0 0, .slice none 0 0]) (hy : w.heap.size + 2 ≤ y ∧ x ≠ y)
    (oi : OI wr w.heap.size 2 A2 n2 c2 ds) (oe : OE wr w.heap.size 59 F2 m2 d2 fs) (hn : n2 ≤ 65) (hm : m2 ≤ 4097) (hq : q ≤ p) :
    Cut3 w ((wr.setCell ⟨y, 0, none⟩ (.slice A2 n2 c2)).setCell ⟨y, 1, none⟩ (.slice F2 m2 d2)) (.pointer (some ⟨y, 0, none⟩)) g p x A n c F m d cs es := by
  have hg := R.s.gl
  have rfar : ∀ {w1 : World} (i : Nat) (u : Value), R2 w w1 g q #[.slice none 0 0, .slice none 0 0] #[.slice none 0 0, .slice none 0 0] → R2 w (w1.setCell ⟨y, i, none⟩ u) g q #[.slice none 0 0, .slice none 0 0] #[.slice none 0 0, .slice none 0 0] := fun i u h =>
    ⟨h.s.far grown_set (fun b e => by injection e with e; omega), h.r1.far (by show w.heap.size ≠ y; omega) _, h.r2.far (by show w.heap.size + 1 ≠ y; omega) _⟩
  have e1 : some y ≠ blk A2 := OS.typed' oi.os Y (by decide)
  have e2 : some y ≠ blk F2 := OS.typed' oe.os Y (by decide)
  refine ⟨y, A2, n2, c2, F2, m2, d2, ds, fs, q, rfl, rfar _ _ (rfar _ _ R), (V.far Y hy.2 0 (.slice A2 n2 c2)).far (Y.set_ 0 (.slice A2 n2 c2)) hy.2 1 _, ⟨?_, ?_, ?_, hy.1, hg⟩, hy.2, hn, hm, hq⟩
  · have := (Y.set_ 0 (.slice A2 n2 c2)).set_ 1 (.slice F2 m2 d2)
    simpa using this
  · exact (oi.kept grown_set (.inr fun e => e1 e.symm)).kept grown_set (.inr fun e => e1 e.symm)
  · exact (oe.kept grown_set (.inr fun e => e2 e.symm)).kept grown_set (.inr fun e => e2 e.symm)
theorem RE.take_ {w : World} {A : Option Addr} {n k : Nat} {es : List Ed} (h : RE w A n es) (hk : k ≤ n) : RE w A k (es.take k) :=
  ⟨by rw [List.length_take, h.len]; omega, fun j e he => h.at_ j e (by rw [List.getElem?_take] at he; split at he; exact he; cases he)⟩
theorem RE.drop_' {w : World} {g n k : Nat} {es : List Ed} {A : Option Addr} (h : RE w (some ⟨g, 0, none⟩) n es) (hk : k ≤ n) (hA : A = some ⟨g, k * 2, none⟩ ∨ k = n) : RE w A (n - k) (es.drop k) :=
  ⟨by rw [List.length_drop, h.len], fun j e he => by
    rw [List.getElem?_drop] at he
    obtain ⟨g', o', ha, h1, h2, h3⟩ := h.at_ _ e he
    cases ha
    have hl := (List.getElem?_eq_some_iff.1 he).1
    rw [h.len] at hl
    rcases hA with rfl | hA
    · exact ⟨g, k * 2, rfl, by rw [← h1]; congr 2; omega, by rw [← h2]; congr 2; omega, h3⟩
    · omega⟩
theorem cut4_done {w wr : World} {g q x y : Nat} {A : Option Addr} {n c : Nat} {F : Option Addr} {m d : Nat} {cs : List Int} {es : List Ed} {A2 : Option Addr} {n2 c2 : Nat} {F2 : Option Addr} {m2 d2 : Nat} {ds : List Int} {fs : List Ed} {F3 : Option Addr} {m3 d3 : Nat} {gs : List Ed}
    (R : R2 w wr g q #[.slice none 0 0, .slice none 0 0] #[.slice none 0 0, .slice none 0 0]) (V : VG w wr g x A n c F m d cs es) (U : VG w wr g y A2 n2 c2 F2 m2 d2 ds fs) (hxy : x ≠ y) (oe : OE wr w.heap.size 59 F3 m3 d3 gs) :
    R2 w (wr.setCell ⟨y, 1, none⟩ (.slice F3 m3 d3)) g q #[.slice none 0 0, .slice none 0 0] #[.slice none 0 0, .slice none 0 0] ∧ VG w (wr.setCell ⟨y, 1, none⟩ (.slice F3 m3 d3)) g x A n c F m d cs es ∧ VG w (wr.setCell ⟨y, 1, none⟩ (.slice F3 m3 d3)) g y A2 n2 c2 F3 m3 d3 ds gs := by
  have hg := R.s.gl
  have hy := U.lx
  have e1 : some y ≠ blk A2 := OS.typed' U.oa.os U.b (by decide)
  have e2 : some y ≠ blk F3 := OS.typed' oe.os U.b (by decide)
  refine ⟨⟨R.s.far grown_set (fun b e => by injection e with e; omega), R.r1.far (by show w.heap.size ≠ y; omega) _, R.r2.far (by show w.heap.size + 1 ≠ y; omega) _⟩, V.far U.b hxy 1 _, ⟨?_, ?_, ?_, hy, hg⟩⟩
  · have := U.b.set_ 1 (.slice F3 m3 d3)
    simpa using this
  · exact U.oa.kept grown_set (.inr fun e => e1 e.symm)
  · exact oe.kept grown_set (.inr fun e => e2 e.symm)
set_option maxRecDepth 100000 in
set_option maxHeartbeats 800000 in
theorem l22DrawTwo_any (g p : Nat) (w : World) (hs : Src w g p) (hp : p ≤ 70368744177664) :
    Calls Tryz.prog 11 #[.pointer (some ⟨g, 0, none⟩)] w (RetD2 w g p 70000) := by
  have R : R2 w ((w.alloc (.cells #[.slice none 0 0, .slice none 0 0] 27)).alloc (.cells #[.slice none 0 0, .slice none 0 0] 27)) g p #[.slice none 0 0, .slice none 0 0] #[.slice none 0 0, .slice none 0 0] :=
    ⟨((SrW.start hs).step (below_alloc w _)).step (below_alloc _ _), (Blk.new w _ _).alloc _, by
      have := Blk.new (w.alloc (.cells #[.slice none 0 0, .slice none 0 0] 27)) 27 #[.slice none 0 0, .slice none 0 0]
      simpa using this⟩
  clear hs
  go_enter Tryz.func11, Tryz.ntmps11
  go_wp2_with fail
  refine (l22DrawGraph_any g p _ R.s.src (by omega)).mono ?_
  rintro e w5 ⟨A, n, c, F, m, d, cs, es, q5, rfl, hoa, hoe, S5, hq5, hn, hm⟩
  have hz := R.s.size
  have R := R.draw S5.src S5.grown
  have V : VG w (w5.alloc (.cells #[.slice A n c, .slice F m d] 27)) g w5.heap.size A n c F m d cs es :=
    ⟨Blk.new w5 _ _, (hoa.more (by simp; omega)).alloc _, (hoe.more (by simp; omega)).alloc _, by have := R.r2.lt; omega, R.s.gl⟩
  have R := R.step (below_alloc w5 (.cells #[.slice A n c, .slice F m d] 27))
  clear hoa hoe S5 hz
  go_wp2_with fail
  refine (l21Ok_any A n c F m d cs es _ V.reads (by omega) (by omega)).mono ?_
  rintro e w6 ⟨rfl, hb6⟩
  have R := R.step hb6
  have V := V.step hb6
  clear hb6
  generalize w5.heap.size = x at *
  by_cases hok : GraphOk cs es
  · rw [show tB (GraphOk cs es) = true from tB_true.2 hok]
    go_wp2_with fail
    refine (one_any g q5 4 _ R.s.src (by omega) (by omega) (by omega)).mono ?_
    rintro e w7 ⟨b, q7, rfl, hq7, hs7, hg7⟩
    have V := V.draw R.s hg7
    have R := R.draw hs7 hg7
    clear hs7 hg7
    cases b with
    | true =>
      have hq : q7 ≤ p + 30010 := by omega
      clear hq7 hq5 hok
      obtain ⟨q, rfl⟩ : ∃ q, q = q7 := ⟨_, rfl⟩
      go_wp2_with fail
      refine (l22DrawGraph_any g q _ R.s.src (by omega)).mono ?_
      rintro e w9 ⟨A', n', c', F', m', d', ds, fs, q9, rfl, hoa, hoe, S9, hq9, hn', hm'⟩
      have hz := R.s.size
      have V := V.draw R.s S9.grown
      have R := R.draw S9.src S9.grown
      have U : VG w (w9.alloc (.cells #[.slice A' n' c', .slice F' m' d'] 27)) g w9.heap.size A' n' c' F' m' d' ds fs :=
        ⟨Blk.new w9 _ _, (hoa.more (by omega)).alloc _, (hoe.more (by omega)).alloc _, by have := R.r2.lt; omega, R.s.gl⟩
      have V := V.step (below_alloc w9 (.cells #[.slice A' n' c', .slice F' m' d'] 27))
      have R := R.step (below_alloc w9 (.cells #[.slice A' n' c', .slice F' m' d'] 27))
      clear hoa hoe S9 hz
      obtain ⟨r0, r1⟩ := R.r1.cells2
      obtain ⟨r2, r3⟩ := R.r2.cells2
      have f0 := R.r1.frozen 0
      have f1 := R.r1.frozen 1
      have f2 := R.r2.frozen 0
      have f3 := R.r2.frozen 1
      obtain ⟨v0, v1⟩ := V.b.cells2
      obtain ⟨u0, u1⟩ := U.b.cells2
      have HF := Lib.hid (R.done V U).drew
      have hlv := V.lx
      have hlu := U.lx
      clear R V U
      go_wp2
      go_region_with (fail)
      all_goals
        go_wp2
        clear r0 r1 r2 r3 v0 v1 u0 u1 f0 f1 f2 f3
        obtain ⟨r0, r1⟩ := HF.out.r.r1.cells2
        obtain ⟨r2, r3⟩ := HF.out.r.r2.cells2
        exact bodyPost_ret (v := .tuple #[.agg #[.slice A n c, .slice F m d], .agg #[.slice A' n' c', .slice F' m' d']]) (by simp [results, Tryz.results11, go_sem, r0, r1, r2, r3]) rfl ⟨A, n, c, F, m, d, cs, es, A', n', c', F', m', d', ds, fs, x, _, q9, rfl, HF.out.v, HF.out.u, HF.out.r.s, by omega, by omega, by omega, by omega, by omega⟩
    | false =>
      have hq : q7 ≤ p + 30010 := by omega
      have hE := graph_edges hok
      have hlc : cs.length = n := V.oa.len
      rw [hlc] at hE
      clear hq7 hq5 hlc hok
      have HR := Lib.hid (R.step (below_drewn _ 1))
      have HV := Lib.hid (V.step (below_drewn _ 1))
      have HC := Lib.hid (l21DrawPerm_any g q7 n _ HR.out.s.src (by omega) (by omega))
      have HE := Lib.hid hE
      clear hE
      obtain ⟨y0, y1⟩ := V.b.cells2
      have hlx := V.lx
      have hxl := V.b.lt
      clear R V
      go_upto_region 3 with (fail)
      go_cut [5] (fun s5 wx => Cut3 w wx s5 g (p + 30010 + 130) x A n c F m d cs es)
      case first =>
        refine region_last (P := Tryz.prog) (S := fun w' => w'.cell? ⟨x, 0, none⟩ = some (.slice A n c) ∧ w'.cell? ⟨x, 1, none⟩ = some (.slice F m d)) (by kernel_rfl) (by simp only [List.getLast?_cons_cons, List.getLast?_singleton]; rfl) (by dsimp only [List.dropLast]) (by kernel_rfl) (by simpa using ⟨y0, y1⟩) ?_
        intro hS
        clear y0 y1
        refine wpAnyH_take (i := 0) (v := ?_) rfl (by kernel_rfl) (by kernel_rfl) (by kernel_rfl) (fun _ _ _ h => h) (Or.inl ⟨by rfl, ?_⟩) (by assumption) ?_
        rotate_left
        · (intro w hSw; (try dsimp only at hSw); go_simp; (try with_reducible rfl))
        simp only [Act.put, List.setIfInBounds_toArray, List.set_cons_zero, List.set_cons_succ]
        refine wpAnyH_take (i := 1) (v := ?_) rfl (by kernel_rfl) (by kernel_rfl) (by kernel_rfl) (fun _ _ _ h => h) (Or.inl ⟨by rfl, ?_⟩) (by assumption) ?_
        rotate_left
        · (intro w hSw; (try dsimp only at hSw); go_simp; (try with_reducible rfl))
        simp only [Act.put, List.setIfInBounds_toArray, List.set_cons_zero, List.set_cons_succ]
        refine wpAnyH_take (i := 2) (v := ?_) rfl (by kernel_rfl) (by kernel_rfl) (by kernel_rfl) (fun _ _ _ h => h) (Or.inl ⟨by rfl, ?_⟩) (by assumption) ?_
        rotate_left
        · (intro w hSw; (try dsimp only at hSw); go_simp; (try with_reducible rfl))
        simp only [Act.put, List.setIfInBounds_toArray, List.set_cons_zero, List.set_cons_succ]
        refine wpAnyH_take (i := 3) (v := ?_) rfl (by kernel_rfl) (by kernel_rfl) (by kernel_rfl) (fun _ _ _ h => h) (Or.inl ⟨by rfl, ?_⟩) (by assumption) ?_
        rotate_left
        · (intro w hSw; (try dsimp only at hSw); go_simp; (try with_reducible rfl))
        simp only [Act.put, List.setIfInBounds_toArray, List.set_cons_zero, List.set_cons_succ]
        refine wpAnyH_take (i := 4) (v := ?_) rfl (by kernel_rfl) (by kernel_rfl) (by kernel_rfl) (fun _ _ _ h => h) (Or.inl ⟨by rfl, ?_⟩) (by assumption) ?_
        rotate_left
        · (intro w hSw; (try dsimp only at hSw); go_simp; (try with_reducible rfl))
        simp only [Act.put, List.setIfInBounds_toArray, List.set_cons_zero, List.set_cons_succ]
        have HC' := HC.out
        have HV' := HV.out
        have HR' := HR.out
        simp only [← World.drew_is_drewN] at HC' HV' HR'
        generalize w7.drew = W at *
        clear HC HV HR
        refine wpAnyH_ready (rs := [5, 7]) (by kernel_rfl) (by simp) ?_
        refine AllReadyH.cons rfl (fun K hK => ?_) (AllReadyH.cons rfl (fun K hK => ?_) AllReadyH.nil)
        · go_simp
          refine HC'.mono ?_
          rintro e w8 ⟨P, cP, zs, q8, rfl, hop, hlp, hpp, S8, hq8⟩
          dsimp only
          have R8 := HR'.draw S8.src S8.grown
          have V8 := HV'.draw HR'.s S8.grown
          refine hK.out _ _ V8.b.cells2 (fun hS1 => ?_)
          clear hK K hS
          refine wpAnyH_ready (rs := [6, 7]) (by kernel_rfl) (by simp) ?_
          refine AllReadyH.cons rfl (fun K hK => ?_) (AllReadyH.cons rfl (fun K hK => ?_) AllReadyH.nil)
          · go_simp
            refine (l21Relabel_any A n c F m d cs es P cP zs _ V8.reads hop.reads hpp (by omega) (by omega) HE.out).mono ?_
            rintro e w9 ⟨A2, n2, c2, F2, m2, d2, rfl, hog, hb9⟩
            dsimp only
            have R9 := R8.step hb9
            have V9 := V8.step hb9
            refine hK.out _ _ V9.b.cells2 (fun hS2 => ?_)
            clear hK K hS1
            refine wpAnyH_ready (rs := [7]) (by kernel_rfl) (by simp) ?_
            refine AllReadyH.cons rfl (fun K hK => ?_) AllReadyH.nil
            go_simp
            refine hK.out _ _ (V9.step (below_alloc w9 _)).b.cells2 (fun hS3 => ?_)
            clear hK K hS2
            refine wpAnyH_done (by kernel_rfl) ?_ _
            dsimp only [atEnd]
            clear hS3
            have Y := Blk.new w9 27 #[.slice none 0 0, .slice none 0 0]
            have R3 := R9.step (below_alloc w9 (.cells #[.slice none 0 0, .slice none 0 0] 27))
            have V3 := V9.step (below_alloc w9 (.cells #[.slice none 0 0, .slice none 0 0] 27))
            have hyl : w.heap.size + 2 ≤ w9.heap.size ∧ x ≠ w9.heap.size := ⟨by have := R9.r2.lt; omega, by have := V9.b.lt; omega⟩
            have oi := (hog.oi.more (by have := R8.s.size; omega : w.heap.size ≤ w8.heap.size)).alloc (.cells #[.slice none 0 0, .slice none 0 0] 27)
            have oe := (hog.oe.more (by have := R8.s.size; omega : w.heap.size ≤ w8.heap.size)).alloc (.cells #[.slice none 0 0, .slice none 0 0] 27)
            have hln : n2 ≤ n := by rw [← hog.oi.len, relC_len, V9.oa.len]; exact Nat.le_refl _
            have hlm : m2 ≤ m := by rw [← hog.oe.len, ← V9.of_.len]; exact relE_len _ _
            clear V8 R8 V9 R9 hog hb9 hop
            generalize w9.alloc _ = wa at *
            generalize w9.heap.size = y at *
            obtain ⟨y0, y1⟩ := Y.cells2
            have f0 := Y.frozen 0
            have f1 := Y.frozen 1
            go_wp2
            go_meet
            exact cut3_done R3 V3 Y hyl oi oe (by omega) (by omega) (by omega)
          · go_simp
            refine hK.out _ _ (V8.step (below_alloc w8 _)).b.cells2 (fun hS2 => ?_)
            clear hK K hS1
            have Y := Blk.new w8 27 #[.slice none 0 0, .slice none 0 0]
            have R9 := R8.step (below_alloc w8 (.cells #[.slice none 0 0, .slice none 0 0] 27))
            have V9 := V8.step (below_alloc w8 (.cells #[.slice none 0 0, .slice none 0 0] 27))
            have hop := hop.alloc (.cells #[.slice none 0 0, .slice none 0 0] 27)
            have hyl : w.heap.size + 2 ≤ w8.heap.size ∧ x ≠ w8.heap.size := ⟨by have := R8.r2.lt; omega, by have := V8.b.lt; omega⟩
            clear R8 V8 S8
            generalize w8.heap.size = y at *
            generalize w8.alloc _ = w8 at *
            refine wpAnyH_ready (rs := [6]) (by kernel_rfl) (by simp) ?_
            refine AllReadyH.cons rfl (fun K hK => ?_) AllReadyH.nil
            go_simp
            refine (l21Relabel_any A n c F m d cs es P cP zs _ V9.reads hop.reads hpp (by omega) (by omega) HE.out).mono ?_
            rintro e w9 ⟨A2, n2, c2, F2, m2, d2, rfl, hog, hb9⟩
            dsimp only
            have R3 := R9.step hb9
            have V3 := V9.step hb9
            have Y := Y.after hb9
            refine hK.out _ _ V3.b.cells2 (fun hS3 => ?_)
            clear hK K hS2
            refine wpAnyH_done (by kernel_rfl) ?_ _
            dsimp only [atEnd]
            clear hS3
            have oi := hog.oi.more (by have := R9.s.size; omega : w.heap.size ≤ w8.heap.size)
            have oe := hog.oe.more (by have := R9.s.size; omega : w.heap.size ≤ w8.heap.size)
            have hln : n2 ≤ n := by rw [← hog.oi.len, relC_len, V3.oa.len]; exact Nat.le_refl _
            have hlm : m2 ≤ m := by rw [← hog.oe.len, ← V3.of_.len]; exact relE_len _ _
            clear R9 V9 hog hb9 hop
            obtain ⟨y0, y1⟩ := Y.cells2
            have f0 := Y.frozen 0
            have f1 := Y.frozen 1
            go_wp2
            go_meet
            exact cut3_done R3 V3 Y hyl oi oe (by omega) (by omega) (by omega)
        · go_simp
          refine hK.out _ _ (HV'.step (below_alloc W _)).b.cells2 (fun hS2 => ?_)
          clear hK K hS
          have Y := Blk.new W 27 #[.slice none 0 0, .slice none 0 0]
          have R8 := HR'.step (below_alloc W (.cells #[.slice none 0 0, .slice none 0 0] 27))
          have V8 := HV'.step (below_alloc W (.cells #[.slice none 0 0, .slice none 0 0] 27))
          have hyl : w.heap.size + 2 ≤ W.heap.size ∧ x ≠ W.heap.size := ⟨by have := HR'.r2.lt; omega, by have := HV'.b.lt; omega⟩
          clear HR' HV' HC'
          generalize W.heap.size = y at *
          generalize W.alloc _ = W at *
          refine wpAnyH_ready (rs := [5]) (by kernel_rfl) (by simp) ?_
          refine AllReadyH.cons rfl (fun K hK => ?_) AllReadyH.nil
          go_simp
          refine (l21DrawPerm_any g q7 n _ R8.s.src (by omega) (by omega)).mono ?_
          rintro e w8 ⟨P, cP, zs, q8, rfl, hop, hlp, hpp, S8, hq8⟩
          dsimp only
          have R9 := R8.draw S8.src S8.grown
          have V9 := V8.draw R8.s S8.grown
          have Y := Y.grown S8.grown (fun e => by injection e with e; have := R8.s.gl; omega)
          refine hK.out _ _ V9.b.cells2 (fun hS3 => ?_)
          clear hK K hS2 V8 R8 S8
          refine wpAnyH_ready (rs := [6]) (by kernel_rfl) (by simp) ?_
          refine AllReadyH.cons rfl (fun K hK => ?_) AllReadyH.nil
          go_simp
          refine (l21Relabel_any A n c F m d cs es P cP zs _ V9.reads hop.reads hpp (by omega) (by omega) HE.out).mono ?_
          rintro e w9 ⟨A2, n2, c2, F2, m2, d2, rfl, hog, hb9⟩
          dsimp only
          have R3 := R9.step hb9
          have V3 := V9.step hb9
          have Y := Y.after hb9
          refine hK.out _ _ V3.b.cells2 (fun hS4 => ?_)
          clear hK K hS3
          refine wpAnyH_done (by kernel_rfl) ?_ _
          dsimp only [atEnd]
          clear hS4
          have oi := hog.oi.more (by have := R9.s.size; omega : w.heap.size ≤ w8.heap.size)
          have oe := hog.oe.more (by have := R9.s.size; omega : w.heap.size ≤ w8.heap.size)
          have hln : n2 ≤ n := by rw [← hog.oi.len, relC_len, V3.oa.len]; exact Nat.le_refl _
          have hlm : m2 ≤ m := by rw [← hog.oe.len, ← V3.of_.len]; exact relE_len _ _
          clear R9 V9 hog hb9 hop
          obtain ⟨y0, y1⟩ := Y.cells2
          have f0 := Y.frozen 0
          have f1 := Y.frozen 1
          go_wp2
          go_meet
          exact cut3_done R3 V3 Y hyl oi oe (by omega) (by omega) (by omega)
      case rest =>
        obtain ⟨y, A2, n2, c2, F2, m2, d2, ds, fs, q3, rfl, R, V, U, hxy, hn2, hm2, hq3⟩ := hcut
        clear HC HE HV HR y0 y1 hq
        obtain ⟨y0, y1⟩ := U.b.cells2
        go_wp2_with fail
        refine (one_any g q3 4 _ R.s.src (by omega) (by omega) (by omega)).mono ?_
        rintro e w10 ⟨b, q10, rfl, hq10, hs10, hg10⟩
        have V := V.draw R.s hg10
        have U := U.draw R.s hg10
        have R := R.draw hs10 hg10
        clear hs10 hg10 y0 y1
        obtain ⟨y0, y1⟩ := U.b.cells2
        cases b with
        | false =>
          clear y0 y1
          have hq9 : q10 ≤ p + 31000 := by omega
          clear hq10 hq3
          obtain ⟨r0, r1⟩ := R.r1.cells2
          obtain ⟨r2, r3⟩ := R.r2.cells2
          have f0 := R.r1.frozen 0
          have f1 := R.r1.frozen 1
          have f2 := R.r2.frozen 0
          have f3 := R.r2.frozen 1
          obtain ⟨v0, v1⟩ := V.b.cells2
          obtain ⟨u0, u1⟩ := U.b.cells2
          have HF := Lib.hid (R.done V U).drew
          have hlv := V.lx
          have hlu := U.lx
          clear R V U
          go_wp2
          go_region_with (fail)
          all_goals
            go_wp2
            clear r0 r1 r2 r3 v0 v1 u0 u1 f0 f1 f2 f3
            obtain ⟨r0, r1⟩ := HF.out.r.r1.cells2
            obtain ⟨r2, r3⟩ := HF.out.r.r2.cells2
            exact bodyPost_ret (v := .tuple #[.agg #[.slice A n c, .slice F m d], .agg #[.slice A2 n2 c2, .slice F2 m2 d2]]) (by simp [results, Tryz.results11, go_sem, r0, r1, r2, r3]) rfl ⟨A, n, c, F, m, d, cs, es, A2, n2, c2, F2, m2, d2, ds, fs, x, _, q10, rfl, HF.out.v, HF.out.u, HF.out.r.s, by omega, by omega, by omega, by omega, by omega⟩
        | true =>
          by_cases hm0 : 0 < m2
          · obtain ⟨gF, rfl, -, -, -⟩ := U.of_.cell (k := 0) hm0
            go_wp2_with fail
            refine (pick_any g q10 (m2 : Int) _ R.s.src (by omega) (by omega) (by omega)).mono ?_
            rintro e w11 ⟨a, q11, rfl, a0, a1, hq11, hs11, hg11⟩
            obtain ⟨a, rfl⟩ := Int.eq_ofNat_of_zero_le a0
            have V := V.draw R.s hg11
            have U := U.draw R.s hg11
            have R := R.draw hs11 hg11
            clear hs11 hg11 y0 y1 a0
            obtain ⟨y0, y1⟩ := U.b.cells2
            have hcap := U.of_.os.cap
            obtain ⟨hc1, hc2⟩ := hcap
            have ham : a < m2 := by omega
            clear a1
            by_cases hcd : a + 1 < d2
            · go_wp2
              refine region_last (P := Tryz.prog) (S := fun w' => w'.cell? ⟨y, 1, none⟩ = some (.slice (some ⟨gF, 0, none⟩) m2 d2)) (by kernel_rfl) (by simp only [List.getLast?_cons_cons, List.getLast?_singleton]; rfl) (by dsimp only [List.dropLast]) (by kernel_rfl) (by simpa using y1) ?_
              intro hS
              clear y0 y1
              have k1 : IntKind.i64.wrap ((a : Int) + 1) = (a : Int) + 1 := IntWalk.i64_in _ (by omega)
              have k2 : 0 ≤ (a : Int) + 1 := by omega
              have k3 : ((a : Int) + 1).toNat = a + 1 := by omega
              have k4 : (a : Int) + 1 ≤ m2 := by omega
              have k5 : ¬ d2 = a + 1 := by omega
              have k6 : (a : Int) ≤ m2 := by omega
              have k7 : a ≤ m2 := by omega
              have k8 : a ≤ d2 := by omega
              refine wpAnyH_take (i := 1) (v := ?_) rfl (by kernel_rfl) (by kernel_rfl) (by kernel_rfl) (fun _ _ _ h => h) (Or.inl ⟨by rfl, ?_⟩) (by assumption) ?_
              rotate_left
              · (intro w hSw; (try dsimp only at hSw); go_simp; (try with_reducible rfl))
              simp only [Act.put, List.setIfInBounds_toArray, List.set_cons_zero, List.set_cons_succ]
              refine wpAnyH_take (i := 2) (v := ?_) rfl (by kernel_rfl) (by kernel_rfl) (by kernel_rfl) (fun _ _ _ h => h) (Or.inl ⟨by rfl, ?_⟩) (by assumption) ?_
              rotate_left
              · (intro w hSw; (try dsimp only at hSw); go_simp; (try with_reducible rfl))
              simp only [Act.put, List.setIfInBounds_toArray, List.set_cons_zero, List.set_cons_succ]
              refine wpAnyH_take (i := 3) (v := ?_) rfl (by kernel_rfl) (by kernel_rfl) (by kernel_rfl) (fun _ _ _ h => h) (Or.inl ⟨by rfl, ?_⟩) (by assumption) ?_
              rotate_left
              · (intro w hSw; (try dsimp only at hSw); go_simp; (try with_reducible rfl))
              simp only [Act.put, List.setIfInBounds_toArray, List.set_cons_zero, List.set_cons_succ]
              refine wpAnyH_take (i := 4) (v := ?_) rfl (by kernel_rfl) (by kernel_rfl) (by kernel_rfl) (fun _ _ _ h => h) (Or.inl ⟨by rfl, ?_⟩) (by assumption) ?_
              rotate_left
              · (intro w hSw; (try dsimp only at hSw); go_simp; (try with_reducible rfl))
              simp only [Act.put, List.setIfInBounds_toArray, List.set_cons_zero, List.set_cons_succ]
              refine wpAnyH_take (i := 6) (v := ?_) rfl (by kernel_rfl) (by kernel_rfl) (by kernel_rfl) (fun _ _ _ h => h) (Or.inl ⟨by rfl, ?_⟩) (by assumption) ?_
              rotate_left
              · (intro w hSw; (try dsimp only at hSw); go_simp; (try with_reducible rfl))
              simp only [Act.put, List.setIfInBounds_toArray, List.set_cons_zero, List.set_cons_succ]
              refine wpAnyH_take (i := 7) (v := ?_) rfl (by kernel_rfl) (by kernel_rfl) (by kernel_rfl) (fun _ _ _ h => h) (Or.inl ⟨by rfl, ?_⟩) (by assumption) ?_
              rotate_left
              · (intro w hSw; (try dsimp only at hSw); go_simp; (try with_reducible rfl))
              simp only [Act.put, List.setIfInBounds_toArray, List.set_cons_zero, List.set_cons_succ]
              refine wpAnyH_take (i := 8) (v := ?_) rfl (by kernel_rfl) (by kernel_rfl) (by kernel_rfl) (fun _ _ _ h => h) (Or.inl ⟨by rfl, ?_⟩) (by assumption) ?_
              rotate_left
              · (intro w hSw; (try dsimp only at hSw); go_simp; (try with_reducible rfl))
              simp only [Act.put, List.setIfInBounds_toArray, List.set_cons_zero, List.set_cons_succ]
              refine wpAnyH_take (i := 9) (v := ?_) rfl (by kernel_rfl) (by kernel_rfl) (by kernel_rfl) (fun _ _ _ h => h) (Or.inl ⟨by rfl, ?_⟩) (by assumption) ?_
              rotate_left
              · (intro w hSw; (try dsimp only at hSw); go_simp; (try with_reducible rfl))
              simp only [Act.put, List.setIfInBounds_toArray, List.set_cons_zero, List.set_cons_succ]
              refine wpAnyH_take (i := 10) (v := ?_) rfl (by kernel_rfl) (by kernel_rfl) (by kernel_rfl) (fun _ _ _ h => h) (Or.inl ⟨by rfl, ?_⟩) (by assumption) ?_
              rotate_left
              · (intro w hSw; (try dsimp only at hSw); go_simp; (try with_reducible rfl))
              simp only [Act.put, List.setIfInBounds_toArray, List.set_cons_zero, List.set_cons_succ]
              clear k1 k2 k3 k4 k5 k6 k7 k8
              have hb12 : Below w11.heap.size w11 w11.drew := by have := below_drewn w11 1; rwa [← World.drew_is_drewN] at this
              have R := R.step hb12
              have V := V.step hb12
              have U := U.step hb12
              clear hb12
              generalize w11.drew = W at *
              refine wpAnyH_ready (rs := [0]) (by kernel_rfl) (by simp) ?_
              refine AllReadyH.cons rfl (fun K hK => ?_) AllReadyH.nil
              go_simp
              have ho0 : OE (W.alloc (.cells #[] 59)) W.heap.size 59 (some ⟨W.heap.size, 0, none⟩) 0 0 [] := ⟨OS.lit W W.heap.size 59 2 0 #[] (Nat.le_refl _) rfl (by omega), fun e he => by cases he⟩
              have hb1 := below_alloc W (.cells #[] 59)
              have hwW := R.s.size
              refine hK.out _ _ (U.step hb1).b.cells2.2 (fun hS1 => ?_)
              clear hK K hS
              refine wpAnyH_ready (rs := [5]) (by kernel_rfl) (by simp) ?_
              refine AllReadyH.cons rfl (fun K hK => ?_) AllReadyH.nil
              refine step_of_list (by rfl) ?_
              refine app_edges _ (by rfl) _ _ (by rfl) W.heap.size _ 0 0 [] (by rfl) ho0 (some ⟨gF, 0, none⟩) a d2 (fs.take a) (by rfl) ((U.step hb1).of_.reads.take_ (by omega)) (fun e he => U.of_.all e (List.mem_of_mem_take he)) (by omega) (by simp) ?_
              intro A3 c3 w13 ho3 hg3 hn3
              have hb3 := below_own hb1 hg3 hb1.size (fun b e => by simp only [blk, Option.map_some, Option.some.injEq] at e; omega)
              refine list_onlyK ?_
              refine hK.out _ _ (U.step hb3).b.cells2.2 (fun hS2 => ?_)
              clear hK K hS1
              rw [List.nil_append] at ho3
              refine wpAnyH_ready (rs := [11]) (by kernel_rfl) (by simp) ?_
              refine AllReadyH.cons rfl (fun K hK => ?_) AllReadyH.nil
              refine step_of_list (by rfl) ?_
              refine app_edges _ (by rfl) _ _ (by rfl) W.heap.size A3 (0 + a) c3 (fs.take a) (by rfl) ho3 (some ⟨gF, (a + 1) * 2, none⟩) (m2 - (a + 1)) (d2 - (a + 1)) (fs.drop (a + 1)) (by rfl) ((U.step hb3).of_.reads.drop_' (by omega) (.inl rfl)) (fun e he => U.of_.all e (List.mem_of_mem_drop he)) (by omega) hb3.size ?_
              intro A4 c4 w14 ho4 hg4 hn4
              have hb4 := below_own hb3 hg4 hb3.size (fun b e => (ho3.os.lt e).1)
              have R := R.step hb4
              have V := V.step hb4
              have U := U.step hb4
              have ho4 := ho4.more (show w.heap.size ≤ W.heap.size by omega)
              refine list_onlyK ?_
              refine hK.out _ _ U.b.cells2.2 (fun hS3 => ?_)
              clear hK K hS2
              have hm4 : 0 + a + (m2 - (a + 1)) ≤ 4097 := by omega
              generalize hmm : 0 + a + (m2 - (a + 1)) = m4 at *
              clear ho3 hg3 hn3 hb3 hg4 hn4 hb4 hmm hb1 ho0
              refine wpAnyH_take (i := 12) (v := ?_) rfl (by kernel_rfl) (by kernel_rfl) (by kernel_rfl) (fun _ _ _ h => h) (Or.inl ⟨by rfl, ?_⟩) (by assumption) ?_
              rotate_left
              · (intro w hSw; (try dsimp only at hSw); go_simp; (try with_reducible rfl))
              simp only [Act.put, List.setIfInBounds_toArray, List.set_cons_zero, List.set_cons_succ]
              refine wpAnyH_done (by kernel_rfl) ?_ _
              dsimp only [atEnd]
              clear hS3
              obtain ⟨y0, y1⟩ := U.b.cells2
              have f1 := U.b.frozen 1
              have H := cut4_done R V U hxy ho4
              have H := Lib.hid H
              clear R V U
              go_wp2
              clear y0 y1 f1
              obtain ⟨R, V, U⟩ := H.out
              clear H
              have hq9 : q11 ≤ p + 31000 := by omega
              clear hq11 hq10 hq3
              obtain ⟨r0, r1⟩ := R.r1.cells2
              obtain ⟨r2, r3⟩ := R.r2.cells2
              have f0 := R.r1.frozen 0
              have f1 := R.r1.frozen 1
              have f2 := R.r2.frozen 0
              have f3 := R.r2.frozen 1
              obtain ⟨v0, v1⟩ := V.b.cells2
              obtain ⟨u0, u1⟩ := U.b.cells2
              have HF := Lib.hid (R.done V U).drew
              have hlv := V.lx
              have hlu := U.lx
              clear R V U
              go_wp2
              go_region_with (fail)
              all_goals
                go_wp2
                clear r0 r1 r2 r3 v0 v1 u0 u1 f0 f1 f2 f3
                obtain ⟨r0, r1⟩ := HF.out.r.r1.cells2
                obtain ⟨r2, r3⟩ := HF.out.r.r2.cells2
                exact bodyPost_ret (v := .tuple #[.agg #[.slice A n c, .slice F m d], .agg #[.slice A2 n2 c2, .slice A4 m4 c4]]) (by simp [results, Tryz.results11, go_sem, r0, r1, r2, r3]) rfl ⟨A, n, c, F, m, d, cs, es, A2, n2, c2, A4, m4, c4, ds, _, x, _, q11, rfl, HF.out.v, HF.out.u, HF.out.r.s, by omega, by omega, by omega, by omega, by omega⟩
            · obtain rfl : m2 = a + 1 := by omega
              obtain rfl : d2 = a + 1 := by omega
              go_wp2
              refine region_last (P := Tryz.prog) (S := fun w' => w'.cell? ⟨y, 1, none⟩ = some (.slice (some ⟨gF, 0, none⟩) (a + 1) (a + 1))) (by kernel_rfl) (by simp only [List.getLast?_cons_cons, List.getLast?_singleton]; rfl) (by dsimp only [List.dropLast]) (by kernel_rfl) (by simpa using y1) ?_
              intro hS
              clear y0 y1
              have k1 : IntKind.i64.wrap ((a : Int) + 1) = (a : Int) + 1 := IntWalk.i64_in _ (by omega)
              have k2 : 0 ≤ (a : Int) + 1 := by omega
              have k3 : ((a : Int) + 1).toNat = a + 1 := by omega
              have k4 : (a : Int) + 1 ≤ ((a + 1 : Nat) : Int) := by omega
              have k6 : (a : Int) ≤ (a : Int) + 1 := by omega
              have k7 : a ≤ a + 1 := by omega
              have k8 : a ≤ a + 1 := by omega
              refine wpAnyH_take (i := 1) (v := ?_) rfl (by kernel_rfl) (by kernel_rfl) (by kernel_rfl) (fun _ _ _ h => h) (Or.inl ⟨by rfl, ?_⟩) (by assumption) ?_
              rotate_left
              · (intro w hSw; (try dsimp only at hSw); go_simp; (try with_reducible rfl))
              simp only [Act.put, List.setIfInBounds_toArray, List.set_cons_zero, List.set_cons_succ]
              refine wpAnyH_take (i := 2) (v := ?_) rfl (by kernel_rfl) (by kernel_rfl) (by kernel_rfl) (fun _ _ _ h => h) (Or.inl ⟨by rfl, ?_⟩) (by assumption) ?_
              rotate_left
              · (intro w hSw; (try dsimp only at hSw); go_simp; (try with_reducible rfl))
              simp only [Act.put, List.setIfInBounds_toArray, List.set_cons_zero, List.set_cons_succ]
              refine wpAnyH_take (i := 3) (v := ?_) rfl (by kernel_rfl) (by kernel_rfl) (by kernel_rfl) (fun _ _ _ h => h) (Or.inl ⟨by rfl, ?_⟩) (by assumption) ?_
              rotate_left
              · (intro w hSw; (try dsimp only at hSw); go_simp; (try with_reducible rfl))
              simp only [Act.put, List.setIfInBounds_toArray, List.set_cons_zero, List.set_cons_succ]
              refine wpAnyH_take (i := 4) (v := ?_) rfl (by kernel_rfl) (by kernel_rfl) (by kernel_rfl) (fun _ _ _ h => h) (Or.inl ⟨by rfl, ?_⟩) (by assumption) ?_
              rotate_left
              · (intro w hSw; (try dsimp only at hSw); go_simp; (try with_reducible rfl))
              simp only [Act.put, List.setIfInBounds_toArray, List.set_cons_zero, List.set_cons_succ]
              refine wpAnyH_take (i := 6) (v := ?_) rfl (by kernel_rfl) (by kernel_rfl) (by kernel_rfl) (fun _ _ _ h => h) (Or.inl ⟨by rfl, ?_⟩) (by assumption) ?_
              rotate_left
              · (intro w hSw; (try dsimp only at hSw); go_simp; (try with_reducible rfl))
              simp only [Act.put, List.setIfInBounds_toArray, List.set_cons_zero, List.set_cons_succ]
              refine wpAnyH_take (i := 7) (v := ?_) rfl (by kernel_rfl) (by kernel_rfl) (by kernel_rfl) (fun _ _ _ h => h) (Or.inl ⟨by rfl, ?_⟩) (by assumption) ?_
              rotate_left
              · (intro w hSw; (try dsimp only at hSw); go_simp; (try with_reducible rfl))
              simp only [Act.put, List.setIfInBounds_toArray, List.set_cons_zero, List.set_cons_succ]
              refine wpAnyH_take (i := 8) (v := ?_) rfl (by kernel_rfl) (by kernel_rfl) (by kernel_rfl) (fun _ _ _ h => h) (Or.inl ⟨by rfl, ?_⟩) (by assumption) ?_
              rotate_left
              · (intro w hSw; (try dsimp only at hSw); go_simp; (try with_reducible rfl))
              simp only [Act.put, List.setIfInBounds_toArray, List.set_cons_zero, List.set_cons_succ]
              refine wpAnyH_take (i := 9) (v := ?_) rfl (by kernel_rfl) (by kernel_rfl) (by kernel_rfl) (fun _ _ _ h => h) (Or.inl ⟨by rfl, ?_⟩) (by assumption) ?_
              rotate_left
              · (intro w hSw; (try dsimp only at hSw); go_simp; (try with_reducible rfl))
              simp only [Act.put, List.setIfInBounds_toArray, List.set_cons_zero, List.set_cons_succ]
              refine wpAnyH_take (i := 10) (v := ?_) rfl (by kernel_rfl) (by kernel_rfl) (by kernel_rfl) (fun _ _ _ h => h) (Or.inl ⟨by rfl, ?_⟩) (by assumption) ?_
              rotate_left
              · (intro w hSw; (try dsimp only at hSw); go_simp; (try with_reducible rfl))
              simp only [Act.put, List.setIfInBounds_toArray, List.set_cons_zero, List.set_cons_succ]
              clear k1 k2 k3 k4
              have hb12 : Below w11.heap.size w11 w11.drew := by have := below_drewn w11 1; rwa [← World.drew_is_drewN] at this
              have R := R.step hb12
              have V := V.step hb12
              have U := U.step hb12
              clear hb12
              generalize w11.drew = W at *
              refine wpAnyH_ready (rs := [0]) (by kernel_rfl) (by simp) ?_
              refine AllReadyH.cons rfl (fun K hK => ?_) AllReadyH.nil
              go_simp
              have ho0 : OE (W.alloc (.cells #[] 59)) W.heap.size 59 (some ⟨W.heap.size, 0, none⟩) 0 0 [] := ⟨OS.lit W W.heap.size 59 2 0 #[] (Nat.le_refl _) rfl (by omega), fun e he => by cases he⟩
              have hb1 := below_alloc W (.cells #[] 59)
              have hwW := R.s.size
              refine hK.out _ _ (U.step hb1).b.cells2.2 (fun hS1 => ?_)
              clear hK K hS
              refine wpAnyH_ready (rs := [5]) (by kernel_rfl) (by simp) ?_
              refine AllReadyH.cons rfl (fun K hK => ?_) AllReadyH.nil
              refine step_of_list (by rfl) ?_
              refine app_edges _ (by rfl) _ _ (by rfl) W.heap.size _ 0 0 [] (by rfl) ho0 (some ⟨gF, 0, none⟩) a (a + 1) (fs.take a) (by rfl) ((U.step hb1).of_.reads.take_ (by omega)) (fun e he => U.of_.all e (List.mem_of_mem_take he)) (by omega) (by simp) ?_
              intro A3 c3 w13 ho3 hg3 hn3
              have hb3 := below_own hb1 hg3 hb1.size (fun b e => by simp only [blk, Option.map_some, Option.some.injEq] at e; omega)
              refine list_onlyK ?_
              refine hK.out _ _ (U.step hb3).b.cells2.2 (fun hS2 => ?_)
              clear hK K hS1
              rw [List.nil_append] at ho3
              refine wpAnyH_ready (rs := [11]) (by kernel_rfl) (by simp) ?_
              refine AllReadyH.cons rfl (fun K hK => ?_) AllReadyH.nil
              refine step_of_list (by rfl) ?_
              refine app_edges _ (by rfl) _ _ (by rfl) W.heap.size A3 (0 + a) c3 (fs.take a) (by rfl) ho3 (some ⟨gF, 0, none⟩) 0 0 [] (by rfl) (RE.nil_ _ _) (fun e he => by cases he) (by omega) hb3.size ?_
              intro A4 c4 w14 ho4 hg4 hn4
              have hb4 := below_own hb3 hg4 hb3.size (fun b e => (ho3.os.lt e).1)
              have R := R.step hb4
              have V := V.step hb4
              have U := U.step hb4
              have ho4 := ho4.more (show w.heap.size ≤ W.heap.size by omega)
              refine list_onlyK ?_
              refine hK.out _ _ U.b.cells2.2 (fun hS3 => ?_)
              clear hK K hS2
              have hm4 : 0 + a + 0 ≤ 4097 := by omega
              generalize hmm : 0 + a + 0 = m4 at *
              clear ho3 hg3 hn3 hb3 hg4 hn4 hb4 hmm hb1 ho0
              refine wpAnyH_take (i := 12) (v := ?_) rfl (by kernel_rfl) (by kernel_rfl) (by kernel_rfl) (fun _ _ _ h => h) (Or.inl ⟨by rfl, ?_⟩) (by assumption) ?_
              rotate_left
              · (intro w hSw; (try dsimp only at hSw); go_simp; (try with_reducible rfl))
              simp only [Act.put, List.setIfInBounds_toArray, List.set_cons_zero, List.set_cons_succ]
              refine wpAnyH_done (by kernel_rfl) ?_ _
              dsimp only [atEnd]
              clear hS3
              obtain ⟨y0, y1⟩ := U.b.cells2
              have f1 := U.b.frozen 1
              have H := cut4_done R V U hxy ho4
              have H := Lib.hid H
              clear R V U
              go_wp2
              clear y0 y1 f1
              obtain ⟨R, V, U⟩ := H.out
              clear H
              have hq9 : q11 ≤ p + 31000 := by omega
              clear hq11 hq10 hq3
              obtain ⟨r0, r1⟩ := R.r1.cells2
              obtain ⟨r2, r3⟩ := R.r2.cells2
              have f0 := R.r1.frozen 0
              have f1 := R.r1.frozen 1
              have f2 := R.r2.frozen 0
              have f3 := R.r2.frozen 1
              obtain ⟨v0, v1⟩ := V.b.cells2
              obtain ⟨u0, u1⟩ := U.b.cells2
              have HF := Lib.hid (R.done V U).drew
              have hlv := V.lx
              have hlu := U.lx
              clear R V U
              go_wp2
              go_region_with (fail)
              all_goals
                go_wp2
                clear r0 r1 r2 r3 v0 v1 u0 u1 f0 f1 f2 f3
                obtain ⟨r0, r1⟩ := HF.out.r.r1.cells2
                obtain ⟨r2, r3⟩ := HF.out.r.r2.cells2
                exact bodyPost_ret (v := .tuple #[.agg #[.slice A n c, .slice F m d], .agg #[.slice A2 n2 c2, .slice A4 m4 c4]]) (by simp [results, Tryz.results11, go_sem, r0, r1, r2, r3]) rfl ⟨A, n, c, F, m, d, cs, es, A2, n2, c2, A4, m4, c4, ds, _, x, _, q11, rfl, HF.out.v, HF.out.u, HF.out.r.s, by omega, by omega, by omega, by omega, by omega⟩
          · go_wp2
            clear y0 y1
            have hq9 : q10 ≤ p + 31000 := by omega
            clear hq10 hq3
            obtain ⟨r0, r1⟩ := R.r1.cells2
            obtain ⟨r2, r3⟩ := R.r2.cells2
            have f0 := R.r1.frozen 0
            have f1 := R.r1.frozen 1
            have f2 := R.r2.frozen 0
            have f3 := R.r2.frozen 1
            obtain ⟨v0, v1⟩ := V.b.cells2
            obtain ⟨u0, u1⟩ := U.b.cells2
            have HF := Lib.hid (R.done V U).drew
            have hlv := V.lx
            have hlu := U.lx
            clear R V U
            go_wp2
            go_region_with (fail)
            all_goals
              go_wp2
              clear r0 r1 r2 r3 v0 v1 u0 u1 f0 f1 f2 f3
              obtain ⟨r0, r1⟩ := HF.out.r.r1.cells2
              obtain ⟨r2, r3⟩ := HF.out.r.r2.cells2
              exact bodyPost_ret (v := .tuple #[.agg #[.slice A n c, .slice F m d], .agg #[.slice A2 n2 c2, .slice F2 m2 d2]]) (by simp [results, Tryz.results11, go_sem, r0, r1, r2, r3]) rfl ⟨A, n, c, F, m, d, cs, es, A2, n2, c2, F2, m2, d2, ds, fs, x, _, q10, rfl, HF.out.v, HF.out.u, HF.out.r.s, by omega, by omega, by omega, by omega, by omega⟩
  · rw [show tB (GraphOk cs es) = false from tB_no hok]
    have hq : q5 ≤ p + 30010 := by omega
    clear hq5 hok
    obtain ⟨q, rfl⟩ : ∃ q, q = q5 := ⟨_, rfl⟩
    go_wp2_with fail
    refine (l22DrawGraph_any g q _ R.s.src (by omega)).mono ?_
    rintro e w9 ⟨A', n', c', F', m', d', ds, fs, q9, rfl, hoa, hoe, S9, hq9, hn', hm'⟩
    have hz := R.s.size
    have V := V.draw R.s S9.grown
    have R := R.draw S9.src S9.grown
    have U : VG w (w9.alloc (.cells #[.slice A' n' c', .slice F' m' d'] 27)) g w9.heap.size A' n' c' F' m' d' ds fs :=
      ⟨Blk.new w9 _ _, (hoa.more (by omega)).alloc _, (hoe.more (by omega)).alloc _, by have := R.r2.lt; omega, R.s.gl⟩
    have V := V.step (below_alloc w9 (.cells #[.slice A' n' c', .slice F' m' d'] 27))
    have R := R.step (below_alloc w9 (.cells #[.slice A' n' c', .slice F' m' d'] 27))
    clear hoa hoe S9 hz
    obtain ⟨r0, r1⟩ := R.r1.cells2
    obtain ⟨r2, r3⟩ := R.r2.cells2
    have f0 := R.r1.frozen 0
    have f1 := R.r1.frozen 1
    have f2 := R.r2.frozen 0
    have f3 := R.r2.frozen 1
    obtain ⟨v0, v1⟩ := V.b.cells2
    obtain ⟨u0, u1⟩ := U.b.cells2
    have HF := Lib.hid (R.done V U).drew
    have hlv := V.lx
    have hlu := U.lx
    clear R V U
    go_wp2
    go_region_with (fail)
    all_goals
      go_wp2
      clear r0 r1 r2 r3 v0 v1 u0 u1 f0 f1 f2 f3
      obtain ⟨r0, r1⟩ := HF.out.r.r1.cells2
      obtain ⟨r2, r3⟩ := HF.out.r.r2.cells2
      exact bodyPost_ret (v := .tuple #[.agg #[.slice A n c, .slice F m d], .agg #[.slice A' n' c', .slice F' m' d']]) (by simp [results, Tryz.results11, go_sem, r0, r1, r2, r3]) rfl ⟨A, n, c, F, m, d, cs, es, A', n', c', F', m', d', ds, fs, x, _, q9, rfl, HF.out.v, HF.out.u, HF.out.r.s, by omega, by omega, by omega, by omega, by omega⟩
end Go.Proofs.YtfhaifgbjpobdaaGreat
/- spec.DrawIsomorphicGraphs. No condition beyond those stated. -/
namespace Go.Proofs.YtfhaifgbjpobdaaGreat
open Go.RowKit

theorem Below.far {B : Nat} {a w w' : World} {g : Nat} (h : Below B a w) (hg : w.grownBy w' (some g)) (hB : B ≤ w.heap.size) (hr : B ≤ g) : Below B a w' := h.grown hg hB (fun k e => by injection e with e; omega)
theorem OI.apartG {w w' : World} {B g : Nat} {e : TypeId} {A : Option Addr} {n c : Nat} {zs : List Int} (h : OI w B e A n c zs) (hg : g < B) (hr : w.grownBy w' (some g)) : OI w' B e A n c zs :=
  h.kept hr (by
    cases hA : blk A with
    | none => exact .inl rfl
    | some k => exact .inr fun e => by injection e with e; have := (h.os.lt hA).1; omega)
theorem OE.apartG {w w' : World} {B g : Nat} {e : TypeId} {A : Option Addr} {n c : Nat} {zs : List Ed} (h : OE w B e A n c zs) (hg : g < B) (hr : w.grownBy w' (some g)) : OE w' B e A n c zs :=
  h.kept hr (by
    cases hA : blk A with
    | none => exact .inl rfl
    | some k => exact .inr fun e => by injection e with e; have := (h.os.lt hA).1; omega)
theorem low4 {P : World → Prop} {w : World} {a b c d : Addr} {u v x y : Value} (h : P w) (hs : ∀ w (p : Addr) u, (p = a ∨ p = b ∨ p = c ∨ p = d) → P w → P (w.setCell p u)) : P ((((w.setCell a u).setCell b v).setCell c x).setCell d y) :=
  hs _ _ _ (.inr (.inr (.inr rfl))) (hs _ _ _ (.inr (.inr (.inl rfl))) (hs _ _ _ (.inr (.inl rfl)) (hs _ _ _ (.inl rfl) h)))
/-- two graphs that read as said, and a number -/
def RetIG (w : World) (e : Ending) (w' : World) : Prop := ∃ A n c F m d cs es A' n' c' F' m' d' ds fs b, e = .returned (.tuple #[.agg #[.slice A n c, .slice F m d], .agg #[.slice A' n' c', .slice F' m' d'], .int .i64 b]) ∧
  RG w' A n F m cs es ∧ RG w' A' n' F' m' ds fs ∧ I64 b ∧ Below w.heap.size w w' ∧ n ≤ 65 ∧ m ≤ 4097 ∧ n' ≤ 65 ∧ m' ≤ 4097
set_option maxRecDepth 100000 in
set_option maxHeartbeats 800000 in
theorem drawIso_any (A0 : Option Addr) (n0 c0 : Nat) (bs : List Int) (w : World) (ha : RS EByte w A0 n0 bs) (hn : n0 ≤ 9223372036854775807) :
    Calls Tryz.prog 5 #[.slice A0 n0 c0] w (RetIG w) := by
  have hb1 := below_then (below_alloc w (.cells #[.slice none 0 0, .slice none 0 0] 27)) (below_alloc _ (.cells #[.slice none 0 0, .slice none 0 0] 27))
  have R1 := (Blk.new w 27 #[.slice none 0 0, .slice none 0 0]).alloc (.cells #[.slice none 0 0, .slice none 0 0] 27)
  have R2 : Blk ((w.alloc (.cells #[.slice none 0 0, .slice none 0 0] 27)).alloc (.cells #[.slice none 0 0, .slice none 0 0] 27)) (w.heap.size + 1) 27 #[.slice none 0 0, .slice none 0 0] := by
    have := Blk.new (w.alloc (.cells #[.slice none 0 0, .slice none 0 0] 27)) 27 #[.slice none 0 0, .slice none 0 0]
    simpa using this
  have hfr := l00From_any A0 n0 c0 bs _ (EBytes.keep ha hb1) hn
  have hg0 : w.heap.size + 2 ≤ ((w.alloc (.cells #[.slice none 0 0, .slice none 0 0] 27)).alloc (.cells #[.slice none 0 0, .slice none 0 0] 27)).heap.size := by simp
  go_enter Tryz.func5, Tryz.ntmps5
  go_wp2_with fail
  generalize (w.alloc (.cells #[.slice none 0 0, .slice none 0 0] 27)).alloc (.cells #[.slice none 0 0, .slice none 0 0] 27) = w1 at *
  refine hfr.mono ?_
  rintro e w2 ⟨rfl, hs2, hb2⟩
  have R1 := R1.after hb2
  have R2 := R2.after hb2
  have hw2 := hb1.trans (hb2.mono hb1.size)
  generalize w1.heap.size = g at *
  clear hfr hb1 hb2
  have hgl := hs2.lt
  go_wp2_with fail
  refine (l22DrawTwo_any g 0 w2 hs2 (by omega)).mono ?_
  rintro e w3 ⟨A, n, c, F, m, d, cs, es, A', n', c', F', m', d', ds, fs, x, y, q3, rfl, V, U, S3, hq3, hn, hm, hn', hm'⟩
  have R1 := R1.grown S3.grown (fun e => by injection e with e; omega)
  have R2 := R2.grown S3.grown (fun e => by injection e with e; omega)
  have hw3 := Below.far hw2 S3.grown hw2.size (by omega)
  have oa := V.oa
  have of_ := V.of_
  have oa' := U.oa
  have of' := U.of_
  have S5 := (S3.step (below_alloc w3 (.cells #[.slice A n c, .slice F m d] 27))).step (below_alloc _ (.cells #[.slice A' n' c', .slice F' m' d'] 27))
  have hb5 := below_then (below_alloc w3 (.cells #[.slice A n c, .slice F m d] 27)) (below_alloc _ (.cells #[.slice A' n' c', .slice F' m' d'] 27))
  have X := (Blk.new w3 27 #[.slice A n c, .slice F m d]).alloc (.cells #[.slice A' n' c', .slice F' m' d'] 27)
  have Y : Blk ((w3.alloc (.cells #[.slice A n c, .slice F m d] 27)).alloc (.cells #[.slice A' n' c', .slice F' m' d'] 27)) (w3.heap.size + 1) 27 #[.slice A' n' c', .slice F' m' d'] := by
    have := Blk.new (w3.alloc (.cells #[.slice A n c, .slice F m d] 27)) 27 #[.slice A' n' c', .slice F' m' d']
    simpa using this
  have hlx := S3.size
  clear V U S3
  go_wp2
  generalize (w3.alloc (.cells #[.slice A n c, .slice F m d] 27)).alloc (.cells #[.slice A' n' c', .slice F' m' d'] 27) = w5 at *
  have R1 := (R1.after hb5).after (below_drewn w5 1)
  have R2 := (R2.after hb5).after (below_drewn w5 1)
  have hw5 := hw3.trans (hb5.mono hw3.size)
  have hw5 := hw5.trans ((below_drewn w5 1).mono hw5.size)
  have oa := (oa.below hb5).below (below_drewn w5 1)
  have of_ := (of_.below hb5).below (below_drewn w5 1)
  have oa' := (oa'.below hb5).below (below_drewn w5 1)
  have of' := (of'.below hb5).below (below_drewn w5 1)
  have S6 := S5.step (below_drewn w5 1)
  have X := X.after (below_drewn w5 1)
  have Y := Y.after (below_drewn w5 1)
  clear hb5 S5
  generalize w3.heap.size = x at *
  simp only [← World.drew_is_drewN] at *
  refine wp_region_held_drew (S := fun w' => w'.cell? ⟨x, 0, none⟩ = some (.slice A n c) ∧ w'.cell? ⟨x, 1, none⟩ = some (.slice F m d) ∧ w'.cell? ⟨x + 1, 0, none⟩ = some (.slice A' n' c') ∧ w'.cell? ⟨x + 1, 1, none⟩ = some (.slice F' m' d')) (by kernel_rfl) ⟨X.cells2.1, X.cells2.2, Y.cells2.1, Y.cells2.2⟩ ?_
  intro hS
  refine wpAnyH_take (i := 0) (v := ?_) rfl (by kernel_rfl) (by kernel_rfl) (by kernel_rfl) (fun _ _ _ h => h) (Or.inl ⟨by rfl, ?_⟩) (by assumption) ?_
  rotate_left
  · (intro w hSw; (try dsimp only at hSw); go_simp; (try with_reducible rfl))
  simp only [Act.put, List.setIfInBounds_toArray, List.set_cons_zero, List.set_cons_succ]
  refine wpAnyH_take (i := 1) (v := ?_) rfl (by kernel_rfl) (by kernel_rfl) (by kernel_rfl) (fun _ _ _ h => h) (Or.inl ⟨by rfl, ?_⟩) (by assumption) ?_
  rotate_left
  · (intro w hSw; (try dsimp only at hSw); go_simp; (try with_reducible rfl))
  simp only [Act.put, List.setIfInBounds_toArray, List.set_cons_zero, List.set_cons_succ]
  refine wpAnyH_take (i := 2) (v := ?_) rfl (by kernel_rfl) (by kernel_rfl) (by kernel_rfl) (fun _ _ _ h => h) (Or.inl ⟨by rfl, ?_⟩) (by assumption) ?_
  rotate_left
  · (intro w hSw; (try dsimp only at hSw); go_simp; (try with_reducible rfl))
  simp only [Act.put, List.setIfInBounds_toArray, List.set_cons_zero, List.set_cons_succ]
  have hdb := l22DrawBudget_any g q3 _ S6.src (by omega)
  generalize w5.drew = W at *
  refine wpAnyH_ready (rs := [3]) (by kernel_rfl) (by simp) ?_
  refine AllReadyH.cons rfl (fun K hK => ?_) AllReadyH.nil
  go_simp
  refine hdb.mono ?_
  rintro e w7 ⟨b, q7, rfl, hb, S7⟩
  dsimp only
  have R1 := R1.grown S7.grown (fun e => by injection e with e; omega)
  have R2 := R2.grown S7.grown (fun e => by injection e with e; omega)
  have X := X.grown S7.grown (fun e => by injection e with e; omega)
  have Y := Y.grown S7.grown (fun e => by injection e with e; omega)
  have hw7 := Below.far hw5 S7.grown hw5.size (by omega)
  have hgo : ∀ {a : Nat}, some a = some g → a = g := fun e => by injection e
  refine hK.out _ _ ⟨X.cells2.1, X.cells2.2, Y.cells2.1, Y.cells2.2⟩ (fun hS1 => ?_)
  clear hK K hS
  obtain ⟨r0, r1⟩ := R1.cells2
  obtain ⟨r2, r3⟩ := R2.cells2
  have f0 := R1.frozen 0
  have f1 := R1.frozen 1
  have f2 := R2.frozen 0
  have f3 := R2.frozen 1
  refine wpAnyH_ready (rs := [4]) (by kernel_rfl) (by simp) ?_
  refine AllReadyH.cons rfl (fun K hK => ?_) AllReadyH.nil
  go_simp
  have hgx : w.heap.size + 2 ≤ x := by omega
  have X := (X.far (p := ⟨w.heap.size, 0, none⟩) (by show x ≠ w.heap.size; omega) (.slice A n c)).far (p := ⟨w.heap.size, 1, none⟩) (by show x ≠ w.heap.size; omega) (.slice F m d)
  have Y := (Y.far (p := ⟨w.heap.size, 0, none⟩) (by show x + 1 ≠ w.heap.size; omega) (.slice A n c)).far (p := ⟨w.heap.size, 1, none⟩) (by show x + 1 ≠ w.heap.size; omega) (.slice F m d)
  refine hK.out _ _ ⟨X.cells2.1, X.cells2.2, Y.cells2.1, Y.cells2.2⟩ (fun hS2 => ?_)
  clear hK K hS1
  have R2b := (R2.far (p := ⟨w.heap.size, 0, none⟩) (by show w.heap.size + 1 ≠ w.heap.size; omega) (.slice A n c)).far (p := ⟨w.heap.size, 1, none⟩) (by show w.heap.size + 1 ≠ w.heap.size; omega) (.slice F m d)
  have R1b := (R1.set_ 0 (.slice A n c)).set_ 1 (.slice F m d)
  clear r0 r1 r2 r3 f0 f1 f2 f3
  obtain ⟨r2, r3⟩ := R2b.cells2
  have f2 := R2b.frozen 0
  have f3 := R2b.frozen 1
  refine wpAnyH_ready (rs := [5]) (by kernel_rfl) (by simp) ?_
  refine AllReadyH.cons rfl (fun K hK => ?_) AllReadyH.nil
  go_simp
  have X := (X.far (p := ⟨w.heap.size + 1, 0, none⟩) (by show x ≠ w.heap.size + 1; omega) (.slice A' n' c')).far (p := ⟨w.heap.size + 1, 1, none⟩) (by show x ≠ w.heap.size + 1; omega) (.slice F' m' d')
  have Y := (Y.far (p := ⟨w.heap.size + 1, 0, none⟩) (by show x + 1 ≠ w.heap.size + 1; omega) (.slice A' n' c')).far (p := ⟨w.heap.size + 1, 1, none⟩) (by show x + 1 ≠ w.heap.size + 1; omega) (.slice F' m' d')
  refine hK.out _ _ ⟨X.cells2.1, X.cells2.2, Y.cells2.1, Y.cells2.2⟩ (fun hS3 => ?_)
  clear hK K hS2 r2 r3 f2 f3
  have R1c := (R1b.far (p := ⟨w.heap.size + 1, 0, none⟩) (by show w.heap.size ≠ w.heap.size + 1; omega) (.slice A' n' c')).far (p := ⟨w.heap.size + 1, 1, none⟩) (by show w.heap.size ≠ w.heap.size + 1; omega) (.slice F' m' d')
  have R2c := (R2b.set_ 0 (.slice A' n' c')).set_ 1 (.slice F' m' d')
  refine wpAnyH_ready (rs := [6]) (by kernel_rfl) (by simp) ?_
  refine AllReadyH.cons rfl (fun K hK => ?_) AllReadyH.nil
  go_simp
  refine hK.out _ _ ⟨X.cells2.1, X.cells2.2, Y.cells2.1, Y.cells2.2⟩ (fun hS4 => ?_)
  clear hK K hS3
  refine wpAnyH_done (by kernel_rfl) ?_ _
  go_wp2
  obtain ⟨r0, r1⟩ := R1c.cells2
  obtain ⟨r2, r3⟩ := R2c.cells2
  have hlow : ∀ (p : Addr), (p = ⟨w.heap.size, 0, none⟩ ∨ p = ⟨w.heap.size, 1, none⟩ ∨ p = ⟨w.heap.size + 1, 0, none⟩ ∨ p = ⟨w.heap.size + 1, 1, none⟩) → w.heap.size ≤ p.block ∧ p.block < w2.heap.size := fun p hp => by
    rcases hp with rfl | rfl | rfl | rfl <;> exact ⟨by show w.heap.size ≤ _; simp, by show _ < w2.heap.size; simp; omega⟩
  have oa := low4 (P := fun W => OI W w2.heap.size 2 A n c cs) (u := .slice A n c) (v := .slice F m d) (x := .slice A' n' c') (y := .slice F' m' d') (oa.apartG hgl S7.grown) (fun _ p u hp h => h.setLow (hlow p hp).2 u)
  have of_ := low4 (P := fun W => OE W w2.heap.size 59 F m d es) (u := .slice A n c) (v := .slice F m d) (x := .slice A' n' c') (y := .slice F' m' d') (of_.apartG hgl S7.grown) (fun _ p u hp h => h.setLow (hlow p hp).2 u)
  have oa' := low4 (P := fun W => OI W w2.heap.size 2 A' n' c' ds) (u := .slice A n c) (v := .slice F m d) (x := .slice A' n' c') (y := .slice F' m' d') (oa'.apartG hgl S7.grown) (fun _ p u hp h => h.setLow (hlow p hp).2 u)
  have of' := low4 (P := fun W => OE W w2.heap.size 59 F' m' d' fs) (u := .slice A n c) (v := .slice F m d) (x := .slice A' n' c') (y := .slice F' m' d') (of'.apartG hgl S7.grown) (fun _ p u hp h => h.setLow (hlow p hp).2 u)
  have hw8 := low4 (P := fun W => Below w.heap.size w W) (u := .slice A n c) (v := .slice F m d) (x := .slice A' n' c') (y := .slice F' m' d') hw7 (fun _ p u hp h => h.setCell (hlow p hp).1 u)
  exact bodyPost_ret (v := .tuple #[.agg #[.slice A n c, .slice F m d], .agg #[.slice A' n' c', .slice F' m' d'], .int .i64 b]) (by simp [results, Tryz.results5, go_sem, r0, r1, r2, r3]) rfl ⟨A, n, c, F, m, d, cs, es, A', n', c', F', m', d', ds, fs, b, rfl, ⟨oa.reads, of_.reads⟩, ⟨oa'.reads, of'.reads⟩, hb, hw8, hn, hm, hn', hm'⟩
end Go.Proofs.YtfhaifgbjpobdaaGreat
