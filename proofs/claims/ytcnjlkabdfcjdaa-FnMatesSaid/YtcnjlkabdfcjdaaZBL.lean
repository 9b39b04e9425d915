/- MateOf, the program's side. No condition beyond those stated. -/
import Derived.Test.YtcnjlkabdfcjdaaZBJ
import Derived.Test.YtcnjlkabdfcjdaaZBD
import Derived.Test.YtcnjlkabdfcjdaaZBK
import Derived.Test.YtcnjlkabdfcjdaaZBG
set_option linter.unusedVariables false
set_option linter.unusedSimpArgs false
namespace Go.Proofs.Ytcnjlkabdfcjdaa
open Go.RowKit

/-- what MateOf answers -/
def RetMO (w : World) (n : Nat) (a : List (List Int)) (e : Ending) (w' : World) : Prop :=
  ∃ (A : Option Addr) (m c : Nat) (k : Int), e = .returned (.tuple #[.slice A m c, .int .i64 k]) ∧ Below w.heap.size w w' ∧
    ((k = 0 ∧ Square a ∧ m = n ∧ ∃ P, OR w' w.heap.size 30 2 A n c P ∧ MtD n a P) ∨ ((k = 1 ∨ k = 2 ∨ k = 5 ∨ k = 3) ∧ m = 0))
theorem RetMO.no {w w' : World} {n : Nat} {a : List (List Int)} {k : Int} (hb : Below w.heap.size w w') (hk : k = 1 ∨ k = 2 ∨ k = 5 ∨ k = 3) : RetMO w n a (.returned (.tuple #[.slice none 0 0, .int .i64 k])) w' :=
  ⟨none, 0, 0, k, rfl, hb, .inr ⟨hk, rfl⟩⟩
/-- row 0 given up to k -/
structure FirstR (n : Nat) (a P : List (List Int)) (fc fy : Nat → Nat → Bool) (k : Nat) : Prop where
  len : P.length = n
  row : ∀ i, i < n → (Go.Proofs.Ytcnjlkabdfcjdaa.row P i).length = n
  at_ : ∀ i j, i < n → j < n → atS P i j = if i = 0 ∧ j < k then (j : Int) else -1
  tab : MtC n a P fc fy
theorem FirstR.start (n : Nat) (a : List (List Int)) : FirstR n a (fillS (fun _ _ => -1) n n) FF FF 0 := by
  refine ⟨fillS_len _ _ _, fun i hi => by rw [fillS_row _ hi, fillR_len], fun i j hi hj => by rw [fillS_at _ hi hj, if_neg (by omega)], ⟨fun t d ht hd => ⟨fun h => absurd h (by simp [FF]), fun h => ?_⟩, fun t s ht hs => ⟨fun h => absurd h (by simp [FF]), fun h => ?_⟩⟩⟩
  · obtain ⟨i, hi, h⟩ := h
    rw [fillS_at _ hi hd] at h; omega
  · obtain ⟨i, j, hi, hj, h, -⟩ := h
    rw [fillS_at _ hi hj] at h; omega
theorem FirstR.step {n : Nat} {a P : List (List Int)} {fc fy : Nat → Nat → Bool} {k s : Nat} (h : FirstR n a P fc fy k) (hk : k < n) (hs : atS a 0 k = (s : Int)) : FirstR n a (putS P 0 k (k : Int)) (upd fc k k true) (upd fy k s true) (k + 1) := by
  have at_ := fun {i j} (hi : i < n) (hj : j < n) => atM_put h.len h.row (x := 0) (y := k) (by omega) hk (k : Int) hi hj
  refine ⟨by unfold putS; rw [List.length_set, h.len], fun i hi => ?_, fun i j hi hj => ?_, h.tab.put h.len h.row (by omega) hk (by rw [h.at_ 0 k (by omega) hk, if_neg (by omega)]) hs⟩
  · rw [row_putS (by rw [h.len]; omega)]
    split
    · rw [List.length_set]; exact h.row 0 (by omega)
    · exact h.row i hi
  · rw [at_ hi hj, h.at_ i j hi hj]
    by_cases e : i = 0 ∧ j = k
    · rw [if_pos e, if_pos (by omega)]; omega
    · rw [if_neg e]
      by_cases e2 : i = 0 ∧ j < k
      · rw [if_pos e2, if_pos (by omega)]
      · rw [if_neg e2, if_neg (by omega)]
theorem FirstR.inv {n : Nat} {a P : List (List Int)} {fc fy : Nat → Nat → Bool} (h : FirstR n a P fc fy n) : MtI n a P 0 1 ∧ MtN n P 0 1 := by
  have e : ∀ i j, i < n → j < n → (i = 0 ∧ atS P i j = (j : Int)) ∨ (1 ≤ i ∧ atS P i j = -1) := fun i j hi hj => by
    have := h.at_ i j hi hj
    by_cases e : i = 0
    · exact .inl ⟨e, by rw [this, if_pos ⟨e, hj⟩]⟩
    · exact .inr ⟨by omega, by rw [this, if_neg (by omega)]⟩
  refine ⟨⟨h.len, h.row, fun i j hi hj => ?_, fun i j l hi hj hl hne => ?_, fun i l j hi hl hj hne => ?_, fun i l j m hi hl hj hm hne he => ?_, fun t i ht hi hc => ?_⟩, fun t i j ht hi hj hc => ?_⟩
  · rcases e i j hi hj with h1 | h1 <;> omega
  · rcases e i j hi (by omega) with h1 | h1 <;> rcases e i l hi hl with h2 | h2 <;> omega
  · rcases e i j (by omega) hj with h1 | h1 <;> rcases e l j hl hj with h2 | h2 <;> omega
  · rcases e i j (by omega) hj with h1 | h1 <;> rcases e l m hl hm with h2 | h2 <;> omega
  · have : i = 0 := by omega
    subst this
    rcases e 0 t hi ht with h1 | h1
    · exact ⟨t, ht, h1.2⟩
    · omega
  · rcases e i j hi hj with h1 | h1 <;> omega
theorem sq_entry {a : List (List Int)} {n : Nat} (h : Square a) (hl : a.length = n) : ∀ i j, i < n → j < n → (row a i).length = n ∧ ∃ s : Nat, atS a i j = (s : Int) ∧ s < n := fun i j hi hj => by
  obtain ⟨h1, h2⟩ := h.2.2.1 i (by omega)
  have hb := h2.bd j (by rw [h1]; omega)
  rw [h1, hl] at hb
  exact ⟨by rw [h1, hl], (nth (row a i) j).toNat, by unfold atS; omega, by omega⟩
theorem M9.mt {w0 wx : World} {g n : Nat} {SA : Option Addr} {sc : Nat} {a : List (List Int)} {MA : Option Addr} {mc : Nat} {vm : List Sl} {P : List (List Int)} {CA : Option Addr} {cc : Nat} {vc : List Sl} {YA : Option Addr} {yc : Nat} {vy : List Sl} {left D : Nat} (h : M9 w0 wx D g n SA sc a MA mc vm P CA cc YA yc n CA n cc vc YA n yc vy left) : IMt w0 wx g n SA sc a MA mc vm P CA cc vc FF YA yc vy FF left false :=
  ⟨h.x, h.b, h.o0, h.m, h.c, h.y, h.sep, h.gB⟩
theorem mate1_ask (n : Nat) (w : World) : AskS 59 #[] (fun _ _ => -1) n w := fun x y W hW hx hy => by
  show Calls Try.prog 59 #[.int .i64 x, .int .i64 y] W _
  go_enter Try.func59, Try.ntmps59
  go_wp2
  go_ret
  exact ⟨rfl, Below.refl _ _⟩
set_option maxRecDepth 100000 in
set_option maxHeartbeats 16000000 in
theorem mateOf_any (A : Option Addr) (n c : Nat) (a : List (List Int)) (b : Int) (w : World) (ha : RR w A n a) (hn : n ≤ 1099511627776) (hr : cells a ≤ 1099511627776) :
    Calls Try.prog 24 #[.slice A n c, .int .i64 b] w (RetMO w n a) := by
  have hval := validSquare_any A n c a w ha hn hr
  cases hv : tB (Square a) with
  | false =>
    rw [hv] at hval
    go_enter Try.func24, Try.ntmps24
    go_wp2_with (go_at_call 18; refine hval.mono ?_; rintro e w2 ⟨rfl, hb2⟩)
    go_ret2
    exact RetMO.no hb2 (by decide)
  | true =>
    rw [hv] at hval
    have hq := tB_true.1 hv
    cases hi : inB b 1 20000 with
    | false =>
      go_enter Try.func24, Try.ntmps24
      go_wp2_with (first | (go_at_call 18; refine hval.mono ?_; rintro e w2 ⟨rfl, hb2⟩) | (go_at_call 35; refine (isBudget_any _ _).mono ?_; rintro e w3 ⟨rfl, rfl⟩; rw [hi]))
      go_ret2
      exact RetMO.no hb2 (by decide)
    | true =>
      have hbb := inB_true hi
      obtain ⟨b', rfl⟩ : ∃ l' : Nat, b = (l' : Int) := ⟨b.toNat, by omega⟩
      have hb20 : b' ≤ 20000 := by omega
      have hal := ha.len
      have hn10 : n ≤ 10 := by have := hq.2.1; omega
      have hn1 : 1 ≤ n := by have := hq.1; omega
      have HQ := Lib.hid (sq_entry hq hal)
      have HSQ := Lib.hid hq
      have eg : ∀ (args : Array Value) (w : World), (callFunc 59 args).run Try.prog w = .ok (.enter 59 args) w := fun _ _ => by kernel_rfl
      have hfs := fun w2 => filledSquare_any 59 #[] eg (fun _ _ => -1) n w2 (by omega) (fun _ _ _ _ => by unfold I64; omega) (mate1_ask n w2)
      clear hbb hv hq hal
      go_enter Try.func24, Try.ntmps24
      go_wp2_with (first | (go_at_call 18; refine hval.mono ?_; rintro e w2 ⟨rfl, hb2⟩) | (go_at_call 35; refine (isBudget_any _ _).mono ?_; rintro e w3 ⟨rfl, rfl⟩; rw [hi]) | (go_at_call 48; refine (sizeR_any _ _ _ _ (by omega)).mono ?_; rintro e w3 ⟨rfl, rfl⟩))
      refine (hfs w2).mono ?_
      rintro e w3 ⟨MA, mc, rfl, hom, hb3⟩
      obtain ⟨vm, hov⟩ := hom
      have ha2 := ha.keep hb2
      have hb4 := below_alloc w3 (.cells #[.int .i64 b', .bool false, .slice A n c, .slice MA n mc, .slice none 0 0, .slice none 0 0] 84)
      have X := Blk.new w3 84 #[.int .i64 b', .bool false, .slice A n c, .slice MA n mc, .slice none 0 0, .slice none 0 0]
      have hb34 := hb3.trans (hb4.mono hb3.size)
      have HM : M9 w2 (w3.alloc (.cells #[.int .i64 b', .bool false, .slice A n c, .slice MA n mc, .slice none 0 0, .slice none 0 0] 84)) w2.heap.size w3.heap.size n A c a MA mc vm (fillS (fun _ _ => -1) n n) none 0 none 0 0 none 0 0 [] none 0 0 [] b' :=
        ⟨X, hb34, ha2, hov.below hb4, ⟨OS.nil_ _ _ _ _, fun j v h => by simp at h, fun i j v u _ h => by simp at h, by decide⟩, ⟨OS.nil_ _ _ _ _, fun j v h => by simp at h, fun i j v u _ h => by simp at h, by decide⟩, fun i j v u h => by simp at h, .inl rfl, hb3.size, hb34.size, Nat.le_refl _⟩
      clear X hb4 hb34 hov hb3 hfs hval
      go_wp2
      generalize w3.alloc (.cells #[.int .i64 b', .bool false, .slice A n c, .slice MA n mc, .slice none 0 0, .slice none 0 0] 84) = w4 at *
      generalize w3.heap.size = g at *
      go_loopw [26] (fun i wr => ∃ (k : Nat) (XC : Option Addr) (xc : Nat) (vc : List Sl) (XY : Option Addr) (xy : Nat) (vy : List Sl), k ≤ n ∧ i = .int .i64 k ∧ M9 w2 wr w2.heap.size g n A c a MA mc vm (fillS (fun _ _ => -1) n n) XC xc XY xy k XC k xc vc XY k xy vy b') (fun i _ => n - (intOf i).toNat)
      case atStart => exact ⟨0, _, _, _, _, _, _, Nat.zero_le _, rfl, HM⟩
      case round =>
        clear HM
        obtain ⟨k, XC, xc, vc, XY, xy, vy, hk, rfl, HM⟩ := hrel
        by_cases hlt : k < n
        · have hdr : Below wr.heap.size wr wr.drew := by have := below_drewn wr 1; rwa [← World.drew_is_drewN] at this
          have HM := HM.below hdr
          have HM := HM.rebase (Nat.le_refl _) (Nat.le_trans HM.zB HM.z)
          have hmk := run_make_row' (P := Try.prog) 57 4 (.bool false) 1 Try.underlying57 bool_infoM rfl .i64 .i64 n (by omega) (by omega)
          clear hdr
          go_wp2
          refine region_sufX (P := Try.prog) (n := 18) (i := 1) (v := .pointer (some ⟨g, 0, none⟩)) (S := fun w' => w'.cell? ⟨g, 4, none⟩ = some (.slice XC k xc) ∧ w'.cell? ⟨g, 5, none⟩ = some (.slice XY k xy)) (by kernel_rfl) (by simp only [List.take_succ_cons, List.take_zero]; rfl) (by simp only [List.drop_succ_cons, List.drop_zero]; rfl) (by kernel_rfl) rfl (by decide) (by kernel_rfl) (by kernel_rfl) (by kernel_rfl) (by kernel_rfl) (fun _ _ _ h => h) (Or.inl ⟨by rfl, ?_⟩) (by simpa using HM.loads) ?_
          · intro w5
            go_simp
          intro hS
          simp only [Act.put, List.setIfInBounds_toArray, List.set_cons_zero, List.set_cons_succ]
          generalize wr.drew = wx0 at *
          have HCA := Lib.hid (show ∀ b, blk XC = some b → b < wx0.heap.size from fun b hb => (HM.c.os.lt hb).2)
          have HYA := Lib.hid (show ∀ b, blk XY = some b → b < wx0.heap.size from fun b hb => (HM.y.os.lt hb).2)
          have HCR := Lib.hid (show ∀ (j : Nat) (u : Sl) (b : Nat), vc[j]? = some u → blk u.1 = some b → b < wx0.heap.size from fun j u b hu hb => ((HM.c.rows j u hu).2.lt hb).2)
          have HYR := Lib.hid (show ∀ (j : Nat) (u : Sl) (b : Nat), vy[j]? = some u → blk u.1 = some b → b < wx0.heap.size from fun j u b hu hb => ((HM.y.rows j u hu).2.lt hb).2)
          obtain ⟨D, hD⟩ : ∃ D, wx0.heap.size = D := ⟨_, rfl⟩
          rw [hD] at HM HCA HYA HCR HYR
          clear hD
          refine wpAnyH_take (i := 0) (v := ?_) rfl (by kernel_rfl) (by kernel_rfl) (by kernel_rfl) (fun _ _ _ h => h) (Or.inl ⟨by rfl, ?_⟩) (by assumption) ?_
          rotate_left
          · (intro w hSw; (try dsimp only at hSw); go_simp; (try with_reducible rfl))
          simp only [Act.put, List.setIfInBounds_toArray, List.set_cons_zero, List.set_cons_succ]
          refine wpAnyH_take (i := 2) (v := ?_) rfl (by kernel_rfl) (by kernel_rfl) (by kernel_rfl) (fun _ _ _ h => h) (Or.inl ⟨by rfl, ?_⟩) (by assumption) ?_
          rotate_left
          · (intro w hSw; (try dsimp only at hSw); go_simp; (try with_reducible rfl))
          simp only [Act.put, List.setIfInBounds_toArray, List.set_cons_zero, List.set_cons_succ]
          refine wpAnyH_take (i := 3) (v := ?_) rfl (by kernel_rfl) (by kernel_rfl) (by kernel_rfl) (fun _ _ _ h => h) (Or.inl ⟨by rfl, ?_⟩) (by assumption) ?_
          rotate_left
          · (intro w hSw; (try dsimp only at hSw); go_simp; (try with_reducible rfl))
          simp only [Act.put, List.setIfInBounds_toArray, List.set_cons_zero, List.set_cons_succ]
          refine wpAnyH_take (i := 4) (v := ?_) rfl (by kernel_rfl) (by kernel_rfl) (by kernel_rfl) (fun _ _ _ h => h) (Or.inl ⟨by rfl, ?_⟩) (by assumption) ?_
          rotate_left
          · (intro w hSw; (try dsimp only at hSw); go_simp; (try with_reducible rfl))
          simp only [Act.put, List.setIfInBounds_toArray, List.set_cons_zero, List.set_cons_succ]
          refine wpAnyH_take (i := 5) (v := ?_) rfl (by kernel_rfl) (by kernel_rfl) (by kernel_rfl) (fun _ _ _ h => h) (Or.inl ⟨by rfl, ?_⟩) (by assumption) ?_
          rotate_left
          · (intro w hSw; (try dsimp only at hSw); go_simp; (try with_reducible rfl))
          simp only [Act.put, List.setIfInBounds_toArray, List.set_cons_zero, List.set_cons_succ]
          refine wpAnyH_take (i := 6) (v := ?_) rfl (by kernel_rfl) (by kernel_rfl) (by kernel_rfl) (fun _ _ _ h => h) (Or.inl ⟨by rfl, ?_⟩) (by assumption) ?_
          rotate_left
          · (intro w hSw; (try dsimp only at hSw); go_simp; (try with_reducible rfl))
          simp only [Act.put, List.setIfInBounds_toArray, List.set_cons_zero, List.set_cons_succ]
          refine wpAnyH_take (i := 10) (v := ?_) rfl (by kernel_rfl) (by kernel_rfl) (by kernel_rfl) (fun _ _ _ h => h) (Or.inl ⟨by rfl, ?_⟩) (by assumption) ?_
          rotate_left
          · (intro w hSw; (try dsimp only at hSw); go_simp; (try with_reducible rfl))
          simp only [Act.put, List.setIfInBounds_toArray, List.set_cons_zero, List.set_cons_succ]
          refine wpAnyH_take (i := 11) (v := ?_) rfl (by kernel_rfl) (by kernel_rfl) (by kernel_rfl) (fun _ _ _ h => h) (Or.inl ⟨by rfl, ?_⟩) (by assumption) ?_
          rotate_left
          · (intro w hSw; (try dsimp only at hSw); go_simp; (try with_reducible rfl))
          simp only [Act.put, List.setIfInBounds_toArray, List.set_cons_zero, List.set_cons_succ]
          refine wpAnyH_take (i := 12) (v := ?_) rfl (by kernel_rfl) (by kernel_rfl) (by kernel_rfl) (fun _ _ _ h => h) (Or.inl ⟨by rfl, ?_⟩) (by assumption) ?_
          rotate_left
          · (intro w hSw; (try dsimp only at hSw); go_simp; (try with_reducible rfl))
          simp only [Act.put, List.setIfInBounds_toArray, List.set_cons_zero, List.set_cons_succ]
          refine wpAnyH_take (i := 13) (v := ?_) rfl (by kernel_rfl) (by kernel_rfl) (by kernel_rfl) (fun _ _ _ h => h) (Or.inl ⟨by rfl, ?_⟩) (by assumption) ?_
          rotate_left
          · (intro w hSw; (try dsimp only at hSw); go_simp; (try with_reducible rfl))
          simp only [Act.put, List.setIfInBounds_toArray, List.set_cons_zero, List.set_cons_succ]
          refine wpAnyH_take (i := 14) (v := ?_) rfl (by kernel_rfl) (by kernel_rfl) (by kernel_rfl) (fun _ _ _ h => h) (Or.inl ⟨by rfl, ?_⟩) (by assumption) ?_
          rotate_left
          · (intro w hSw; (try dsimp only at hSw); go_simp; (try with_reducible rfl))
          simp only [Act.put, List.setIfInBounds_toArray, List.set_cons_zero, List.set_cons_succ]
          simp only [List.getElem_toArray, List.getElem_cons_succ, List.getElem_cons_zero]
          refine wpAnyH_ready (rs := [7, 15]) (by kernel_rfl) (by simp) ?_
          refine AllReadyH.cons rfl (fun K hK => ?_) (AllReadyH.cons rfl (fun K hK => ?_) AllReadyH.nil)
          · go_simp
            have HB := below_alloc wx0 (.cells (madeCells #[.bool false] n) 4)
            have HN1 := NR.made wx0 D n HM.z (by omega)
            have HM := HM.below HB
            refine hK.out _ _ HM.loads (fun hS => ?_)
            clear hK K HB
            generalize wx0.alloc _ = wx1 at *
            generalize wx0.heap.size = r1 at *
            refine wpAnyH_ready (rs := [8, 15]) (by kernel_rfl) (by simp) ?_
            refine AllReadyH.cons rfl (fun K hK => ?_) (AllReadyH.cons rfl (fun K hK => ?_) AllReadyH.nil)
            · go_simp
              have HB := below_alloc wx1 (.cells #[.slice (some ⟨r1, 0, none⟩) n n] 57)
              have HL1 := LB.new wx1 D r1 n HM.z
              have HN1 := NR.below HN1 HB
              have HM := HM.below HB
              refine hK.out _ _ HM.loads (fun hS => ?_)
              clear hK K HB
              generalize wx1.alloc _ = wx2 at *
              generalize wx1.heap.size = q1 at *
              refine wpAnyH_ready (rs := [9, 15]) (by kernel_rfl) (by simp) ?_
              refine AllReadyH.cons rfl (fun K hK => ?_) (AllReadyH.cons rfl (fun K hK => ?_) AllReadyH.nil)
              · refine step_of_list (by rfl) ?_
                refine app_tabR _ (by rfl) (.tmp 33) (.tmp 36) (by rfl) w2.heap.size XC k xc n vc FF (by rfl) HM.c (some ⟨r1, 0, none⟩, n, n) rfl (OS.more HN1 HM.zB) (fun i u hu => .inr fun e => by have := HCR.out i u r1 hu e; have := HN1.lo; omega) q1 (by rfl) HL1.cell (by omega) (Nat.le_trans HM.zB HM.z) ?_
                intro E1 e1 wx3 ho hg hf
                refine list_onlyK ?_
                have HN1 := NR.grown HN1 hg HCA.out
                have HL1 := HL1.grown hg HCA.out
                have HM := HM.pushC ho hg hf HN1.lo.1 HYR.out
                clear ho hg hf
                refine hK.out _ _ HM.loads (fun hS => ?_)
                clear hK K
                refine wpAnyH_ready (rs := [15]) (by kernel_rfl) (by simp) ?_
                refine AllReadyH.cons rfl (fun K hK => ?_) AllReadyH.nil
                go_simp
                have HB := below_alloc wx3 (.cells (madeCells #[.bool false] n) 4)
                have HN2 := NR.made wx3 D n HM.z (by omega)
                have HNE : r1 ≠ wx3.heap.size := by have := HN1.lo; omega
                have HN1 := NR.below HN1 HB
                have HL1 := HL1.below HB
                have HM := HM.below HB
                refine hK.out _ _ HM.loads (fun hS => ?_)
                clear hK K HB
                generalize wx3.alloc _ = wx4 at *
                generalize wx3.heap.size = r2 at *
                refine wpAnyH_ready (rs := [16]) (by kernel_rfl) (by simp) ?_
                refine AllReadyH.cons rfl (fun K hK => ?_) AllReadyH.nil
                go_simp
                have HB := below_alloc wx4 (.cells #[.slice (some ⟨r2, 0, none⟩) n n] 57)
                have HL2 := LB.new wx4 D r2 n HM.z
                have HN1 := NR.below HN1 HB
                have HN2 := NR.below HN2 HB
                have HL1 := HL1.below HB
                have HM := HM.below HB
                refine hK.out _ _ HM.loads (fun hS => ?_)
                clear hK K HB
                generalize wx4.alloc _ = wx5 at *
                generalize wx4.heap.size = q2 at *
                refine wpAnyH_ready (rs := [17]) (by kernel_rfl) (by simp) ?_
                refine AllReadyH.cons rfl (fun K hK => ?_) AllReadyH.nil
                refine step_of_list (by rfl) ?_
                refine app_tabR _ (by rfl) (.tmp 41) (.tmp 44) (by rfl) w2.heap.size XY k xy n vy FF (by rfl) HM.y (some ⟨r2, 0, none⟩, n, n) rfl (OS.more HN2 HM.zB) (fun i u hu => .inr fun e => by have := HYR.out i u r2 hu e; have := HN2.lo; omega) q2 (by rfl) HL2.cell (by omega) (Nat.le_trans HM.zB HM.z) ?_
                intro E2 e2 wx6 ho hg hf
                refine list_onlyK ?_
                have HN1 := NR.grown HN1 hg HYA.out
                have HN2 := NR.grown HN2 hg HYA.out
                have HL1 := HL1.grown hg HYA.out
                have HL2 := HL2.grown hg HYA.out
                have HM := HM.pushY ho hg hf (fun i u hu e => by
                  rw [List.getElem?_append] at hu
                  split at hu
                  · have := HCR.out i u r2 hu e; have := HN2.lo; omega
                  · have e2 : u = (some ⟨r1, 0, none⟩, n, n) := by simpa using List.mem_of_getElem? hu
                    subst e2
                    have e3 : r1 = r2 := by simpa [blk] using e
                    omega)
                clear ho hg hf
                refine hK.out _ _ HM.loads (fun hS => ?_)
                clear hK K
                refine wpAnyH_done (by kernel_rfl) ?_ _
                dsimp only [atEnd]
                obtain ⟨l1, l2⟩ := HM.loads
                have z4 := HM.x.frozen 4
                have z5 := HM.x.frozen 5
                have HM9 := Lib.hid HM.stored
                obtain ⟨s1, s2⟩ := HM.second
                clear HM HN1 HN2 HL1 HL2 hS HNE
                go_wp2
                go_roundw
                case rel => exact ⟨k + 1, _, _, _, _, _, _, by omega, by go_num, HM9.out⟩
                case measure => simp [intOf]; omega
              · go_simp
                have HB := below_alloc wx2 (.cells (madeCells #[.bool false] n) 4)
                have HN2 := NR.made wx2 D n HM.z (by omega)
                have HNE : r1 ≠ wx2.heap.size := by have := HN1.lo; omega
                have HN1 := NR.below HN1 HB
                have HL1 := HL1.below HB
                have HM := HM.below HB
                refine hK.out _ _ HM.loads (fun hS => ?_)
                clear hK K HB
                generalize wx2.alloc _ = wx7 at *
                generalize wx2.heap.size = r2 at *
                refine wpAnyH_ready (rs := [9, 16]) (by kernel_rfl) (by simp) ?_
                refine AllReadyH.cons rfl (fun K hK => ?_) (AllReadyH.cons rfl (fun K hK => ?_) AllReadyH.nil)
                · refine step_of_list (by rfl) ?_
                  refine app_tabR _ (by rfl) (.tmp 33) (.tmp 36) (by rfl) w2.heap.size XC k xc n vc FF (by rfl) HM.c (some ⟨r1, 0, none⟩, n, n) rfl (OS.more HN1 HM.zB) (fun i u hu => .inr fun e => by have := HCR.out i u r1 hu e; have := HN1.lo; omega) q1 (by rfl) HL1.cell (by omega) (Nat.le_trans HM.zB HM.z) ?_
                  intro E1 e1 wx8 ho hg hf
                  refine list_onlyK ?_
                  have HN1 := NR.grown HN1 hg HCA.out
                  have HN2 := NR.grown HN2 hg HCA.out
                  have HL1 := HL1.grown hg HCA.out
                  have HM := HM.pushC ho hg hf HN1.lo.1 HYR.out
                  clear ho hg hf
                  refine hK.out _ _ HM.loads (fun hS => ?_)
                  clear hK K
                  refine wpAnyH_ready (rs := [16]) (by kernel_rfl) (by simp) ?_
                  refine AllReadyH.cons rfl (fun K hK => ?_) AllReadyH.nil
                  go_simp
                  have HB := below_alloc wx8 (.cells #[.slice (some ⟨r2, 0, none⟩) n n] 57)
                  have HL2 := LB.new wx8 D r2 n HM.z
                  have HN1 := NR.below HN1 HB
                  have HN2 := NR.below HN2 HB
                  have HL1 := HL1.below HB
                  have HM := HM.below HB
                  refine hK.out _ _ HM.loads (fun hS => ?_)
                  clear hK K HB
                  generalize wx8.alloc _ = wx9 at *
                  generalize wx8.heap.size = q2 at *
                  refine wpAnyH_ready (rs := [17]) (by kernel_rfl) (by simp) ?_
                  refine AllReadyH.cons rfl (fun K hK => ?_) AllReadyH.nil
                  refine step_of_list (by rfl) ?_
                  refine app_tabR _ (by rfl) (.tmp 41) (.tmp 44) (by rfl) w2.heap.size XY k xy n vy FF (by rfl) HM.y (some ⟨r2, 0, none⟩, n, n) rfl (OS.more HN2 HM.zB) (fun i u hu => .inr fun e => by have := HYR.out i u r2 hu e; have := HN2.lo; omega) q2 (by rfl) HL2.cell (by omega) (Nat.le_trans HM.zB HM.z) ?_
                  intro E2 e2 wx10 ho hg hf
                  refine list_onlyK ?_
                  have HN1 := NR.grown HN1 hg HYA.out
                  have HN2 := NR.grown HN2 hg HYA.out
                  have HL1 := HL1.grown hg HYA.out
                  have HL2 := HL2.grown hg HYA.out
                  have HM := HM.pushY ho hg hf (fun i u hu e => by
                    rw [List.getElem?_append] at hu
                    split at hu
                    · have := HCR.out i u r2 hu e; have := HN2.lo; omega
                    · have e2 : u = (some ⟨r1, 0, none⟩, n, n) := by simpa using List.mem_of_getElem? hu
                      subst e2
                      have e3 : r1 = r2 := by simpa [blk] using e
                      omega)
                  clear ho hg hf
                  refine hK.out _ _ HM.loads (fun hS => ?_)
                  clear hK K
                  refine wpAnyH_done (by kernel_rfl) ?_ _
                  dsimp only [atEnd]
                  obtain ⟨l1, l2⟩ := HM.loads
                  have z4 := HM.x.frozen 4
                  have z5 := HM.x.frozen 5
                  have HM9 := Lib.hid HM.stored
                  obtain ⟨s1, s2⟩ := HM.second
                  clear HM HN1 HN2 HL1 HL2 hS HNE
                  go_wp2
                  go_roundw
                  case rel => exact ⟨k + 1, _, _, _, _, _, _, by omega, by go_num, HM9.out⟩
                  case measure => simp [intOf]; omega
                · go_simp
                  have HB := below_alloc wx7 (.cells #[.slice (some ⟨r2, 0, none⟩) n n] 57)
                  have HL2 := LB.new wx7 D r2 n HM.z
                  have HN1 := NR.below HN1 HB
                  have HN2 := NR.below HN2 HB
                  have HL1 := HL1.below HB
                  have HM := HM.below HB
                  refine hK.out _ _ HM.loads (fun hS => ?_)
                  clear hK K HB
                  generalize wx7.alloc _ = wx11 at *
                  generalize wx7.heap.size = q2 at *
                  refine wpAnyH_ready (rs := [9]) (by kernel_rfl) (by simp) ?_
                  refine AllReadyH.cons rfl (fun K hK => ?_) AllReadyH.nil
                  refine step_of_list (by rfl) ?_
                  refine app_tabR _ (by rfl) (.tmp 33) (.tmp 36) (by rfl) w2.heap.size XC k xc n vc FF (by rfl) HM.c (some ⟨r1, 0, none⟩, n, n) rfl (OS.more HN1 HM.zB) (fun i u hu => .inr fun e => by have := HCR.out i u r1 hu e; have := HN1.lo; omega) q1 (by rfl) HL1.cell (by omega) (Nat.le_trans HM.zB HM.z) ?_
                  intro E1 e1 wx12 ho hg hf
                  refine list_onlyK ?_
                  have HN1 := NR.grown HN1 hg HCA.out
                  have HN2 := NR.grown HN2 hg HCA.out
                  have HL1 := HL1.grown hg HCA.out
                  have HL2 := HL2.grown hg HCA.out
                  have HM := HM.pushC ho hg hf HN1.lo.1 HYR.out
                  clear ho hg hf
                  refine hK.out _ _ HM.loads (fun hS => ?_)
                  clear hK K
                  refine wpAnyH_ready (rs := [17]) (by kernel_rfl) (by simp) ?_
                  refine AllReadyH.cons rfl (fun K hK => ?_) AllReadyH.nil
                  refine step_of_list (by rfl) ?_
                  refine app_tabR _ (by rfl) (.tmp 41) (.tmp 44) (by rfl) w2.heap.size XY k xy n vy FF (by rfl) HM.y (some ⟨r2, 0, none⟩, n, n) rfl (OS.more HN2 HM.zB) (fun i u hu => .inr fun e => by have := HYR.out i u r2 hu e; have := HN2.lo; omega) q2 (by rfl) HL2.cell (by omega) (Nat.le_trans HM.zB HM.z) ?_
                  intro E2 e2 wx13 ho hg hf
                  refine list_onlyK ?_
                  have HN1 := NR.grown HN1 hg HYA.out
                  have HN2 := NR.grown HN2 hg HYA.out
                  have HL1 := HL1.grown hg HYA.out
                  have HL2 := HL2.grown hg HYA.out
                  have HM := HM.pushY ho hg hf (fun i u hu e => by
                    rw [List.getElem?_append] at hu
                    split at hu
                    · have := HCR.out i u r2 hu e; have := HN2.lo; omega
                    · have e2 : u = (some ⟨r1, 0, none⟩, n, n) := by simpa using List.mem_of_getElem? hu
                      subst e2
                      have e3 : r1 = r2 := by simpa [blk] using e
                      omega)
                  clear ho hg hf
                  refine hK.out _ _ HM.loads (fun hS => ?_)
                  clear hK K
                  refine wpAnyH_done (by kernel_rfl) ?_ _
                  dsimp only [atEnd]
                  obtain ⟨l1, l2⟩ := HM.loads
                  have z4 := HM.x.frozen 4
                  have z5 := HM.x.frozen 5
                  have HM9 := Lib.hid HM.stored
                  obtain ⟨s1, s2⟩ := HM.second
                  clear HM HN1 HN2 HL1 HL2 hS HNE
                  go_wp2
                  go_roundw
                  case rel => exact ⟨k + 1, _, _, _, _, _, _, by omega, by go_num, HM9.out⟩
                  case measure => simp [intOf]; omega
            · go_simp
              have HB := below_alloc wx1 (.cells (madeCells #[.bool false] n) 4)
              have HN2 := NR.made wx1 D n HM.z (by omega)
              have HNE : r1 ≠ wx1.heap.size := by have := HN1.lo; omega
              have HN1 := NR.below HN1 HB
              have HM := HM.below HB
              refine hK.out _ _ HM.loads (fun hS => ?_)
              clear hK K HB
              generalize wx1.alloc _ = wx14 at *
              generalize wx1.heap.size = r2 at *
              refine wpAnyH_ready (rs := [8, 16]) (by kernel_rfl) (by simp) ?_
              refine AllReadyH.cons rfl (fun K hK => ?_) (AllReadyH.cons rfl (fun K hK => ?_) AllReadyH.nil)
              · go_simp
                have HB := below_alloc wx14 (.cells #[.slice (some ⟨r1, 0, none⟩) n n] 57)
                have HL1 := LB.new wx14 D r1 n HM.z
                have HN1 := NR.below HN1 HB
                have HN2 := NR.below HN2 HB
                have HM := HM.below HB
                refine hK.out _ _ HM.loads (fun hS => ?_)
                clear hK K HB
                generalize wx14.alloc _ = wx15 at *
                generalize wx14.heap.size = q1 at *
                refine wpAnyH_ready (rs := [9, 16]) (by kernel_rfl) (by simp) ?_
                refine AllReadyH.cons rfl (fun K hK => ?_) (AllReadyH.cons rfl (fun K hK => ?_) AllReadyH.nil)
                · refine step_of_list (by rfl) ?_
                  refine app_tabR _ (by rfl) (.tmp 33) (.tmp 36) (by rfl) w2.heap.size XC k xc n vc FF (by rfl) HM.c (some ⟨r1, 0, none⟩, n, n) rfl (OS.more HN1 HM.zB) (fun i u hu => .inr fun e => by have := HCR.out i u r1 hu e; have := HN1.lo; omega) q1 (by rfl) HL1.cell (by omega) (Nat.le_trans HM.zB HM.z) ?_
                  intro E1 e1 wx16 ho hg hf
                  refine list_onlyK ?_
                  have HN1 := NR.grown HN1 hg HCA.out
                  have HN2 := NR.grown HN2 hg HCA.out
                  have HL1 := HL1.grown hg HCA.out
                  have HM := HM.pushC ho hg hf HN1.lo.1 HYR.out
                  clear ho hg hf
                  refine hK.out _ _ HM.loads (fun hS => ?_)
                  clear hK K
                  refine wpAnyH_ready (rs := [16]) (by kernel_rfl) (by simp) ?_
                  refine AllReadyH.cons rfl (fun K hK => ?_) AllReadyH.nil
                  go_simp
                  have HB := below_alloc wx16 (.cells #[.slice (some ⟨r2, 0, none⟩) n n] 57)
                  have HL2 := LB.new wx16 D r2 n HM.z
                  have HN1 := NR.below HN1 HB
                  have HN2 := NR.below HN2 HB
                  have HL1 := HL1.below HB
                  have HM := HM.below HB
                  refine hK.out _ _ HM.loads (fun hS => ?_)
                  clear hK K HB
                  generalize wx16.alloc _ = wx17 at *
                  generalize wx16.heap.size = q2 at *
                  refine wpAnyH_ready (rs := [17]) (by kernel_rfl) (by simp) ?_
                  refine AllReadyH.cons rfl (fun K hK => ?_) AllReadyH.nil
                  refine step_of_list (by rfl) ?_
                  refine app_tabR _ (by rfl) (.tmp 41) (.tmp 44) (by rfl) w2.heap.size XY k xy n vy FF (by rfl) HM.y (some ⟨r2, 0, none⟩, n, n) rfl (OS.more HN2 HM.zB) (fun i u hu => .inr fun e => by have := HYR.out i u r2 hu e; have := HN2.lo; omega) q2 (by rfl) HL2.cell (by omega) (Nat.le_trans HM.zB HM.z) ?_
                  intro E2 e2 wx18 ho hg hf
                  refine list_onlyK ?_
                  have HN1 := NR.grown HN1 hg HYA.out
                  have HN2 := NR.grown HN2 hg HYA.out
                  have HL1 := HL1.grown hg HYA.out
                  have HL2 := HL2.grown hg HYA.out
                  have HM := HM.pushY ho hg hf (fun i u hu e => by
                    rw [List.getElem?_append] at hu
                    split at hu
                    · have := HCR.out i u r2 hu e; have := HN2.lo; omega
                    · have e2 : u = (some ⟨r1, 0, none⟩, n, n) := by simpa using List.mem_of_getElem? hu
                      subst e2
                      have e3 : r1 = r2 := by simpa [blk] using e
                      omega)
                  clear ho hg hf
                  refine hK.out _ _ HM.loads (fun hS => ?_)
                  clear hK K
                  refine wpAnyH_done (by kernel_rfl) ?_ _
                  dsimp only [atEnd]
                  obtain ⟨l1, l2⟩ := HM.loads
                  have z4 := HM.x.frozen 4
                  have z5 := HM.x.frozen 5
                  have HM9 := Lib.hid HM.stored
                  obtain ⟨s1, s2⟩ := HM.second
                  clear HM HN1 HN2 HL1 HL2 hS HNE
                  go_wp2
                  go_roundw
                  case rel => exact ⟨k + 1, _, _, _, _, _, _, by omega, by go_num, HM9.out⟩
                  case measure => simp [intOf]; omega
                · go_simp
                  have HB := below_alloc wx15 (.cells #[.slice (some ⟨r2, 0, none⟩) n n] 57)
                  have HL2 := LB.new wx15 D r2 n HM.z
                  have HN1 := NR.below HN1 HB
                  have HN2 := NR.below HN2 HB
                  have HL1 := HL1.below HB
                  have HM := HM.below HB
                  refine hK.out _ _ HM.loads (fun hS => ?_)
                  clear hK K HB
                  generalize wx15.alloc _ = wx19 at *
                  generalize wx15.heap.size = q2 at *
                  refine wpAnyH_ready (rs := [9]) (by kernel_rfl) (by simp) ?_
                  refine AllReadyH.cons rfl (fun K hK => ?_) AllReadyH.nil
                  refine step_of_list (by rfl) ?_
                  refine app_tabR _ (by rfl) (.tmp 33) (.tmp 36) (by rfl) w2.heap.size XC k xc n vc FF (by rfl) HM.c (some ⟨r1, 0, none⟩, n, n) rfl (OS.more HN1 HM.zB) (fun i u hu => .inr fun e => by have := HCR.out i u r1 hu e; have := HN1.lo; omega) q1 (by rfl) HL1.cell (by omega) (Nat.le_trans HM.zB HM.z) ?_
                  intro E1 e1 wx20 ho hg hf
                  refine list_onlyK ?_
                  have HN1 := NR.grown HN1 hg HCA.out
                  have HN2 := NR.grown HN2 hg HCA.out
                  have HL1 := HL1.grown hg HCA.out
                  have HL2 := HL2.grown hg HCA.out
                  have HM := HM.pushC ho hg hf HN1.lo.1 HYR.out
                  clear ho hg hf
                  refine hK.out _ _ HM.loads (fun hS => ?_)
                  clear hK K
                  refine wpAnyH_ready (rs := [17]) (by kernel_rfl) (by simp) ?_
                  refine AllReadyH.cons rfl (fun K hK => ?_) AllReadyH.nil
                  refine step_of_list (by rfl) ?_
                  refine app_tabR _ (by rfl) (.tmp 41) (.tmp 44) (by rfl) w2.heap.size XY k xy n vy FF (by rfl) HM.y (some ⟨r2, 0, none⟩, n, n) rfl (OS.more HN2 HM.zB) (fun i u hu => .inr fun e => by have := HYR.out i u r2 hu e; have := HN2.lo; omega) q2 (by rfl) HL2.cell (by omega) (Nat.le_trans HM.zB HM.z) ?_
                  intro E2 e2 wx21 ho hg hf
                  refine list_onlyK ?_
                  have HN1 := NR.grown HN1 hg HYA.out
                  have HN2 := NR.grown HN2 hg HYA.out
                  have HL1 := HL1.grown hg HYA.out
                  have HL2 := HL2.grown hg HYA.out
                  have HM := HM.pushY ho hg hf (fun i u hu e => by
                    rw [List.getElem?_append] at hu
                    split at hu
                    · have := HCR.out i u r2 hu e; have := HN2.lo; omega
                    · have e2 : u = (some ⟨r1, 0, none⟩, n, n) := by simpa using List.mem_of_getElem? hu
                      subst e2
                      have e3 : r1 = r2 := by simpa [blk] using e
                      omega)
                  clear ho hg hf
                  refine hK.out _ _ HM.loads (fun hS => ?_)
                  clear hK K
                  refine wpAnyH_done (by kernel_rfl) ?_ _
                  dsimp only [atEnd]
                  obtain ⟨l1, l2⟩ := HM.loads
                  have z4 := HM.x.frozen 4
                  have z5 := HM.x.frozen 5
                  have HM9 := Lib.hid HM.stored
                  obtain ⟨s1, s2⟩ := HM.second
                  clear HM HN1 HN2 HL1 HL2 hS HNE
                  go_wp2
                  go_roundw
                  case rel => exact ⟨k + 1, _, _, _, _, _, _, by omega, by go_num, HM9.out⟩
                  case measure => simp [intOf]; omega
              · go_simp
                have HB := below_alloc wx14 (.cells #[.slice (some ⟨r2, 0, none⟩) n n] 57)
                have HL2 := LB.new wx14 D r2 n HM.z
                have HN1 := NR.below HN1 HB
                have HN2 := NR.below HN2 HB
                have HM := HM.below HB
                refine hK.out _ _ HM.loads (fun hS => ?_)
                clear hK K HB
                generalize wx14.alloc _ = wx22 at *
                generalize wx14.heap.size = q2 at *
                refine wpAnyH_ready (rs := [8]) (by kernel_rfl) (by simp) ?_
                refine AllReadyH.cons rfl (fun K hK => ?_) AllReadyH.nil
                go_simp
                have HB := below_alloc wx22 (.cells #[.slice (some ⟨r1, 0, none⟩) n n] 57)
                have HL1 := LB.new wx22 D r1 n HM.z
                have HN1 := NR.below HN1 HB
                have HN2 := NR.below HN2 HB
                have HL2 := HL2.below HB
                have HM := HM.below HB
                refine hK.out _ _ HM.loads (fun hS => ?_)
                clear hK K HB
                generalize wx22.alloc _ = wx23 at *
                generalize wx22.heap.size = q1 at *
                refine wpAnyH_ready (rs := [9]) (by kernel_rfl) (by simp) ?_
                refine AllReadyH.cons rfl (fun K hK => ?_) AllReadyH.nil
                refine step_of_list (by rfl) ?_
                refine app_tabR _ (by rfl) (.tmp 33) (.tmp 36) (by rfl) w2.heap.size XC k xc n vc FF (by rfl) HM.c (some ⟨r1, 0, none⟩, n, n) rfl (OS.more HN1 HM.zB) (fun i u hu => .inr fun e => by have := HCR.out i u r1 hu e; have := HN1.lo; omega) q1 (by rfl) HL1.cell (by omega) (Nat.le_trans HM.zB HM.z) ?_
                intro E1 e1 wx24 ho hg hf
                refine list_onlyK ?_
                have HN1 := NR.grown HN1 hg HCA.out
                have HN2 := NR.grown HN2 hg HCA.out
                have HL1 := HL1.grown hg HCA.out
                have HL2 := HL2.grown hg HCA.out
                have HM := HM.pushC ho hg hf HN1.lo.1 HYR.out
                clear ho hg hf
                refine hK.out _ _ HM.loads (fun hS => ?_)
                clear hK K
                refine wpAnyH_ready (rs := [17]) (by kernel_rfl) (by simp) ?_
                refine AllReadyH.cons rfl (fun K hK => ?_) AllReadyH.nil
                refine step_of_list (by rfl) ?_
                refine app_tabR _ (by rfl) (.tmp 41) (.tmp 44) (by rfl) w2.heap.size XY k xy n vy FF (by rfl) HM.y (some ⟨r2, 0, none⟩, n, n) rfl (OS.more HN2 HM.zB) (fun i u hu => .inr fun e => by have := HYR.out i u r2 hu e; have := HN2.lo; omega) q2 (by rfl) HL2.cell (by omega) (Nat.le_trans HM.zB HM.z) ?_
                intro E2 e2 wx25 ho hg hf
                refine list_onlyK ?_
                have HN1 := NR.grown HN1 hg HYA.out
                have HN2 := NR.grown HN2 hg HYA.out
                have HL1 := HL1.grown hg HYA.out
                have HL2 := HL2.grown hg HYA.out
                have HM := HM.pushY ho hg hf (fun i u hu e => by
                  rw [List.getElem?_append] at hu
                  split at hu
                  · have := HCR.out i u r2 hu e; have := HN2.lo; omega
                  · have e2 : u = (some ⟨r1, 0, none⟩, n, n) := by simpa using List.mem_of_getElem? hu
                    subst e2
                    have e3 : r1 = r2 := by simpa [blk] using e
                    omega)
                clear ho hg hf
                refine hK.out _ _ HM.loads (fun hS => ?_)
                clear hK K
                refine wpAnyH_done (by kernel_rfl) ?_ _
                dsimp only [atEnd]
                obtain ⟨l1, l2⟩ := HM.loads
                have z4 := HM.x.frozen 4
                have z5 := HM.x.frozen 5
                have HM9 := Lib.hid HM.stored
                obtain ⟨s1, s2⟩ := HM.second
                clear HM HN1 HN2 HL1 HL2 hS HNE
                go_wp2
                go_roundw
                case rel => exact ⟨k + 1, _, _, _, _, _, _, by omega, by go_num, HM9.out⟩
                case measure => simp [intOf]; omega
          · go_simp
            have HB := below_alloc wx0 (.cells (madeCells #[.bool false] n) 4)
            have HN2 := NR.made wx0 D n HM.z (by omega)
            have HM := HM.below HB
            refine hK.out _ _ HM.loads (fun hS => ?_)
            clear hK K HB
            generalize wx0.alloc _ = wx26 at *
            generalize wx0.heap.size = r2 at *
            refine wpAnyH_ready (rs := [7, 16]) (by kernel_rfl) (by simp) ?_
            refine AllReadyH.cons rfl (fun K hK => ?_) (AllReadyH.cons rfl (fun K hK => ?_) AllReadyH.nil)
            · go_simp
              have HB := below_alloc wx26 (.cells (madeCells #[.bool false] n) 4)
              have HN1 := NR.made wx26 D n HM.z (by omega)
              have HNE : r2 ≠ wx26.heap.size := by have := HN2.lo; omega
              have HN2 := NR.below HN2 HB
              have HM := HM.below HB
              refine hK.out _ _ HM.loads (fun hS => ?_)
              clear hK K HB
              generalize wx26.alloc _ = wx27 at *
              generalize wx26.heap.size = r1 at *
              refine wpAnyH_ready (rs := [8, 16]) (by kernel_rfl) (by simp) ?_
              refine AllReadyH.cons rfl (fun K hK => ?_) (AllReadyH.cons rfl (fun K hK => ?_) AllReadyH.nil)
              · go_simp
                have HB := below_alloc wx27 (.cells #[.slice (some ⟨r1, 0, none⟩) n n] 57)
                have HL1 := LB.new wx27 D r1 n HM.z
                have HN1 := NR.below HN1 HB
                have HN2 := NR.below HN2 HB
                have HM := HM.below HB
                refine hK.out _ _ HM.loads (fun hS => ?_)
                clear hK K HB
                generalize wx27.alloc _ = wx28 at *
                generalize wx27.heap.size = q1 at *
                refine wpAnyH_ready (rs := [9, 16]) (by kernel_rfl) (by simp) ?_
                refine AllReadyH.cons rfl (fun K hK => ?_) (AllReadyH.cons rfl (fun K hK => ?_) AllReadyH.nil)
                · refine step_of_list (by rfl) ?_
                  refine app_tabR _ (by rfl) (.tmp 33) (.tmp 36) (by rfl) w2.heap.size XC k xc n vc FF (by rfl) HM.c (some ⟨r1, 0, none⟩, n, n) rfl (OS.more HN1 HM.zB) (fun i u hu => .inr fun e => by have := HCR.out i u r1 hu e; have := HN1.lo; omega) q1 (by rfl) HL1.cell (by omega) (Nat.le_trans HM.zB HM.z) ?_
                  intro E1 e1 wx29 ho hg hf
                  refine list_onlyK ?_
                  have HN1 := NR.grown HN1 hg HCA.out
                  have HN2 := NR.grown HN2 hg HCA.out
                  have HL1 := HL1.grown hg HCA.out
                  have HM := HM.pushC ho hg hf HN1.lo.1 HYR.out
                  clear ho hg hf
                  refine hK.out _ _ HM.loads (fun hS => ?_)
                  clear hK K
                  refine wpAnyH_ready (rs := [16]) (by kernel_rfl) (by simp) ?_
                  refine AllReadyH.cons rfl (fun K hK => ?_) AllReadyH.nil
                  go_simp
                  have HB := below_alloc wx29 (.cells #[.slice (some ⟨r2, 0, none⟩) n n] 57)
                  have HL2 := LB.new wx29 D r2 n HM.z
                  have HN1 := NR.below HN1 HB
                  have HN2 := NR.below HN2 HB
                  have HL1 := HL1.below HB
                  have HM := HM.below HB
                  refine hK.out _ _ HM.loads (fun hS => ?_)
                  clear hK K HB
                  generalize wx29.alloc _ = wx30 at *
                  generalize wx29.heap.size = q2 at *
                  refine wpAnyH_ready (rs := [17]) (by kernel_rfl) (by simp) ?_
                  refine AllReadyH.cons rfl (fun K hK => ?_) AllReadyH.nil
                  refine step_of_list (by rfl) ?_
                  refine app_tabR _ (by rfl) (.tmp 41) (.tmp 44) (by rfl) w2.heap.size XY k xy n vy FF (by rfl) HM.y (some ⟨r2, 0, none⟩, n, n) rfl (OS.more HN2 HM.zB) (fun i u hu => .inr fun e => by have := HYR.out i u r2 hu e; have := HN2.lo; omega) q2 (by rfl) HL2.cell (by omega) (Nat.le_trans HM.zB HM.z) ?_
                  intro E2 e2 wx31 ho hg hf
                  refine list_onlyK ?_
                  have HN1 := NR.grown HN1 hg HYA.out
                  have HN2 := NR.grown HN2 hg HYA.out
                  have HL1 := HL1.grown hg HYA.out
                  have HL2 := HL2.grown hg HYA.out
                  have HM := HM.pushY ho hg hf (fun i u hu e => by
                    rw [List.getElem?_append] at hu
                    split at hu
                    · have := HCR.out i u r2 hu e; have := HN2.lo; omega
                    · have e2 : u = (some ⟨r1, 0, none⟩, n, n) := by simpa using List.mem_of_getElem? hu
                      subst e2
                      have e3 : r1 = r2 := by simpa [blk] using e
                      omega)
                  clear ho hg hf
                  refine hK.out _ _ HM.loads (fun hS => ?_)
                  clear hK K
                  refine wpAnyH_done (by kernel_rfl) ?_ _
                  dsimp only [atEnd]
                  obtain ⟨l1, l2⟩ := HM.loads
                  have z4 := HM.x.frozen 4
                  have z5 := HM.x.frozen 5
                  have HM9 := Lib.hid HM.stored
                  obtain ⟨s1, s2⟩ := HM.second
                  clear HM HN1 HN2 HL1 HL2 hS HNE
                  go_wp2
                  go_roundw
                  case rel => exact ⟨k + 1, _, _, _, _, _, _, by omega, by go_num, HM9.out⟩
                  case measure => simp [intOf]; omega
                · go_simp
                  have HB := below_alloc wx28 (.cells #[.slice (some ⟨r2, 0, none⟩) n n] 57)
                  have HL2 := LB.new wx28 D r2 n HM.z
                  have HN1 := NR.below HN1 HB
                  have HN2 := NR.below HN2 HB
                  have HL1 := HL1.below HB
                  have HM := HM.below HB
                  refine hK.out _ _ HM.loads (fun hS => ?_)
                  clear hK K HB
                  generalize wx28.alloc _ = wx32 at *
                  generalize wx28.heap.size = q2 at *
                  refine wpAnyH_ready (rs := [9]) (by kernel_rfl) (by simp) ?_
                  refine AllReadyH.cons rfl (fun K hK => ?_) AllReadyH.nil
                  refine step_of_list (by rfl) ?_
                  refine app_tabR _ (by rfl) (.tmp 33) (.tmp 36) (by rfl) w2.heap.size XC k xc n vc FF (by rfl) HM.c (some ⟨r1, 0, none⟩, n, n) rfl (OS.more HN1 HM.zB) (fun i u hu => .inr fun e => by have := HCR.out i u r1 hu e; have := HN1.lo; omega) q1 (by rfl) HL1.cell (by omega) (Nat.le_trans HM.zB HM.z) ?_
                  intro E1 e1 wx33 ho hg hf
                  refine list_onlyK ?_
                  have HN1 := NR.grown HN1 hg HCA.out
                  have HN2 := NR.grown HN2 hg HCA.out
                  have HL1 := HL1.grown hg HCA.out
                  have HL2 := HL2.grown hg HCA.out
                  have HM := HM.pushC ho hg hf HN1.lo.1 HYR.out
                  clear ho hg hf
                  refine hK.out _ _ HM.loads (fun hS => ?_)
                  clear hK K
                  refine wpAnyH_ready (rs := [17]) (by kernel_rfl) (by simp) ?_
                  refine AllReadyH.cons rfl (fun K hK => ?_) AllReadyH.nil
                  refine step_of_list (by rfl) ?_
                  refine app_tabR _ (by rfl) (.tmp 41) (.tmp 44) (by rfl) w2.heap.size XY k xy n vy FF (by rfl) HM.y (some ⟨r2, 0, none⟩, n, n) rfl (OS.more HN2 HM.zB) (fun i u hu => .inr fun e => by have := HYR.out i u r2 hu e; have := HN2.lo; omega) q2 (by rfl) HL2.cell (by omega) (Nat.le_trans HM.zB HM.z) ?_
                  intro E2 e2 wx34 ho hg hf
                  refine list_onlyK ?_
                  have HN1 := NR.grown HN1 hg HYA.out
                  have HN2 := NR.grown HN2 hg HYA.out
                  have HL1 := HL1.grown hg HYA.out
                  have HL2 := HL2.grown hg HYA.out
                  have HM := HM.pushY ho hg hf (fun i u hu e => by
                    rw [List.getElem?_append] at hu
                    split at hu
                    · have := HCR.out i u r2 hu e; have := HN2.lo; omega
                    · have e2 : u = (some ⟨r1, 0, none⟩, n, n) := by simpa using List.mem_of_getElem? hu
                      subst e2
                      have e3 : r1 = r2 := by simpa [blk] using e
                      omega)
                  clear ho hg hf
                  refine hK.out _ _ HM.loads (fun hS => ?_)
                  clear hK K
                  refine wpAnyH_done (by kernel_rfl) ?_ _
                  dsimp only [atEnd]
                  obtain ⟨l1, l2⟩ := HM.loads
                  have z4 := HM.x.frozen 4
                  have z5 := HM.x.frozen 5
                  have HM9 := Lib.hid HM.stored
                  obtain ⟨s1, s2⟩ := HM.second
                  clear HM HN1 HN2 HL1 HL2 hS HNE
                  go_wp2
                  go_roundw
                  case rel => exact ⟨k + 1, _, _, _, _, _, _, by omega, by go_num, HM9.out⟩
                  case measure => simp [intOf]; omega
              · go_simp
                have HB := below_alloc wx27 (.cells #[.slice (some ⟨r2, 0, none⟩) n n] 57)
                have HL2 := LB.new wx27 D r2 n HM.z
                have HN1 := NR.below HN1 HB
                have HN2 := NR.below HN2 HB
                have HM := HM.below HB
                refine hK.out _ _ HM.loads (fun hS => ?_)
                clear hK K HB
                generalize wx27.alloc _ = wx35 at *
                generalize wx27.heap.size = q2 at *
                refine wpAnyH_ready (rs := [8]) (by kernel_rfl) (by simp) ?_
                refine AllReadyH.cons rfl (fun K hK => ?_) AllReadyH.nil
                go_simp
                have HB := below_alloc wx35 (.cells #[.slice (some ⟨r1, 0, none⟩) n n] 57)
                have HL1 := LB.new wx35 D r1 n HM.z
                have HN1 := NR.below HN1 HB
                have HN2 := NR.below HN2 HB
                have HL2 := HL2.below HB
                have HM := HM.below HB
                refine hK.out _ _ HM.loads (fun hS => ?_)
                clear hK K HB
                generalize wx35.alloc _ = wx36 at *
                generalize wx35.heap.size = q1 at *
                refine wpAnyH_ready (rs := [9]) (by kernel_rfl) (by simp) ?_
                refine AllReadyH.cons rfl (fun K hK => ?_) AllReadyH.nil
                refine step_of_list (by rfl) ?_
                refine app_tabR _ (by rfl) (.tmp 33) (.tmp 36) (by rfl) w2.heap.size XC k xc n vc FF (by rfl) HM.c (some ⟨r1, 0, none⟩, n, n) rfl (OS.more HN1 HM.zB) (fun i u hu => .inr fun e => by have := HCR.out i u r1 hu e; have := HN1.lo; omega) q1 (by rfl) HL1.cell (by omega) (Nat.le_trans HM.zB HM.z) ?_
                intro E1 e1 wx37 ho hg hf
                refine list_onlyK ?_
                have HN1 := NR.grown HN1 hg HCA.out
                have HN2 := NR.grown HN2 hg HCA.out
                have HL1 := HL1.grown hg HCA.out
                have HL2 := HL2.grown hg HCA.out
                have HM := HM.pushC ho hg hf HN1.lo.1 HYR.out
                clear ho hg hf
                refine hK.out _ _ HM.loads (fun hS => ?_)
                clear hK K
                refine wpAnyH_ready (rs := [17]) (by kernel_rfl) (by simp) ?_
                refine AllReadyH.cons rfl (fun K hK => ?_) AllReadyH.nil
                refine step_of_list (by rfl) ?_
                refine app_tabR _ (by rfl) (.tmp 41) (.tmp 44) (by rfl) w2.heap.size XY k xy n vy FF (by rfl) HM.y (some ⟨r2, 0, none⟩, n, n) rfl (OS.more HN2 HM.zB) (fun i u hu => .inr fun e => by have := HYR.out i u r2 hu e; have := HN2.lo; omega) q2 (by rfl) HL2.cell (by omega) (Nat.le_trans HM.zB HM.z) ?_
                intro E2 e2 wx38 ho hg hf
                refine list_onlyK ?_
                have HN1 := NR.grown HN1 hg HYA.out
                have HN2 := NR.grown HN2 hg HYA.out
                have HL1 := HL1.grown hg HYA.out
                have HL2 := HL2.grown hg HYA.out
                have HM := HM.pushY ho hg hf (fun i u hu e => by
                  rw [List.getElem?_append] at hu
                  split at hu
                  · have := HCR.out i u r2 hu e; have := HN2.lo; omega
                  · have e2 : u = (some ⟨r1, 0, none⟩, n, n) := by simpa using List.mem_of_getElem? hu
                    subst e2
                    have e3 : r1 = r2 := by simpa [blk] using e
                    omega)
                clear ho hg hf
                refine hK.out _ _ HM.loads (fun hS => ?_)
                clear hK K
                refine wpAnyH_done (by kernel_rfl) ?_ _
                dsimp only [atEnd]
                obtain ⟨l1, l2⟩ := HM.loads
                have z4 := HM.x.frozen 4
                have z5 := HM.x.frozen 5
                have HM9 := Lib.hid HM.stored
                obtain ⟨s1, s2⟩ := HM.second
                clear HM HN1 HN2 HL1 HL2 hS HNE
                go_wp2
                go_roundw
                case rel => exact ⟨k + 1, _, _, _, _, _, _, by omega, by go_num, HM9.out⟩
                case measure => simp [intOf]; omega
            · go_simp
              have HB := below_alloc wx26 (.cells #[.slice (some ⟨r2, 0, none⟩) n n] 57)
              have HL2 := LB.new wx26 D r2 n HM.z
              have HN2 := NR.below HN2 HB
              have HM := HM.below HB
              refine hK.out _ _ HM.loads (fun hS => ?_)
              clear hK K HB
              generalize wx26.alloc _ = wx39 at *
              generalize wx26.heap.size = q2 at *
              refine wpAnyH_ready (rs := [7]) (by kernel_rfl) (by simp) ?_
              refine AllReadyH.cons rfl (fun K hK => ?_) AllReadyH.nil
              go_simp
              have HB := below_alloc wx39 (.cells (madeCells #[.bool false] n) 4)
              have HN1 := NR.made wx39 D n HM.z (by omega)
              have HNE : r2 ≠ wx39.heap.size := by have := HN2.lo; omega
              have HN2 := NR.below HN2 HB
              have HL2 := HL2.below HB
              have HM := HM.below HB
              refine hK.out _ _ HM.loads (fun hS => ?_)
              clear hK K HB
              generalize wx39.alloc _ = wx40 at *
              generalize wx39.heap.size = r1 at *
              refine wpAnyH_ready (rs := [8]) (by kernel_rfl) (by simp) ?_
              refine AllReadyH.cons rfl (fun K hK => ?_) AllReadyH.nil
              go_simp
              have HB := below_alloc wx40 (.cells #[.slice (some ⟨r1, 0, none⟩) n n] 57)
              have HL1 := LB.new wx40 D r1 n HM.z
              have HN1 := NR.below HN1 HB
              have HN2 := NR.below HN2 HB
              have HL2 := HL2.below HB
              have HM := HM.below HB
              refine hK.out _ _ HM.loads (fun hS => ?_)
              clear hK K HB
              generalize wx40.alloc _ = wx41 at *
              generalize wx40.heap.size = q1 at *
              refine wpAnyH_ready (rs := [9]) (by kernel_rfl) (by simp) ?_
              refine AllReadyH.cons rfl (fun K hK => ?_) AllReadyH.nil
              refine step_of_list (by rfl) ?_
              refine app_tabR _ (by rfl) (.tmp 33) (.tmp 36) (by rfl) w2.heap.size XC k xc n vc FF (by rfl) HM.c (some ⟨r1, 0, none⟩, n, n) rfl (OS.more HN1 HM.zB) (fun i u hu => .inr fun e => by have := HCR.out i u r1 hu e; have := HN1.lo; omega) q1 (by rfl) HL1.cell (by omega) (Nat.le_trans HM.zB HM.z) ?_
              intro E1 e1 wx42 ho hg hf
              refine list_onlyK ?_
              have HN1 := NR.grown HN1 hg HCA.out
              have HN2 := NR.grown HN2 hg HCA.out
              have HL1 := HL1.grown hg HCA.out
              have HL2 := HL2.grown hg HCA.out
              have HM := HM.pushC ho hg hf HN1.lo.1 HYR.out
              clear ho hg hf
              refine hK.out _ _ HM.loads (fun hS => ?_)
              clear hK K
              refine wpAnyH_ready (rs := [17]) (by kernel_rfl) (by simp) ?_
              refine AllReadyH.cons rfl (fun K hK => ?_) AllReadyH.nil
              refine step_of_list (by rfl) ?_
              refine app_tabR _ (by rfl) (.tmp 41) (.tmp 44) (by rfl) w2.heap.size XY k xy n vy FF (by rfl) HM.y (some ⟨r2, 0, none⟩, n, n) rfl (OS.more HN2 HM.zB) (fun i u hu => .inr fun e => by have := HYR.out i u r2 hu e; have := HN2.lo; omega) q2 (by rfl) HL2.cell (by omega) (Nat.le_trans HM.zB HM.z) ?_
              intro E2 e2 wx43 ho hg hf
              refine list_onlyK ?_
              have HN1 := NR.grown HN1 hg HYA.out
              have HN2 := NR.grown HN2 hg HYA.out
              have HL1 := HL1.grown hg HYA.out
              have HL2 := HL2.grown hg HYA.out
              have HM := HM.pushY ho hg hf (fun i u hu e => by
                rw [List.getElem?_append] at hu
                split at hu
                · have := HCR.out i u r2 hu e; have := HN2.lo; omega
                · have e2 : u = (some ⟨r1, 0, none⟩, n, n) := by simpa using List.mem_of_getElem? hu
                  subst e2
                  have e3 : r1 = r2 := by simpa [blk] using e
                  omega)
              clear ho hg hf
              refine hK.out _ _ HM.loads (fun hS => ?_)
              clear hK K
              refine wpAnyH_done (by kernel_rfl) ?_ _
              dsimp only [atEnd]
              obtain ⟨l1, l2⟩ := HM.loads
              have z4 := HM.x.frozen 4
              have z5 := HM.x.frozen 5
              have HM9 := Lib.hid HM.stored
              obtain ⟨s1, s2⟩ := HM.second
              clear HM HN1 HN2 HL1 HL2 hS HNE
              go_wp2
              go_roundw
              case rel => exact ⟨k + 1, _, _, _, _, _, _, by omega, by go_num, HM9.out⟩
              case measure => simp [intOf]; omega
        · obtain rfl : k = n := by omega
          have hI := HM.mt
          have hF := FirstR.start k a
          clear HM
          go_wp2
          go_loopw [8] (fun i wr => ∃ (j : Nat) (P : List (List Int)) (fc fy : Nat → Nat → Bool), j ≤ k ∧ i = .int .i64 j ∧ IMt w2 wr g k A c a MA mc vm P XC xc vc fc XY xy vy fy b' false ∧ FirstR k a P fc fy j) (fun i _ => k - (intOf i).toNat)
          case atStart => exact ⟨0, _, _, _, Nat.zero_le _, rfl, hI, hF⟩
          case round =>
            clear hI hF
            obtain ⟨j, P, fc, fy, hj, rfl, hI, hF⟩ := hrel
            by_cases hjl : j < k
            · obtain ⟨hra, s, hs, hsn⟩ := HQ.out 0 j (by omega) hjl
              have htk := take_any w2 wr g k A c a MA mc vm P XC xc vc fc XY xy vy fy b' false hI (by omega) j 0 j s hjl (by omega) hjl hs hsn hra (hF.row 0 (by omega)) true
              rw [if_pos rfl] at htk
              have hst := Lib.hid (hF.step hjl hs)
              clear hI hF hs hra
              go_wp2_with (fail)
              refine htk.mono ?_
              rintro e w5 ⟨rfl, h5⟩
              clear htk
              go_wp2
              go_roundw
              case rel => exact ⟨j + 1, _, _, _, by omega, by go_num, h5, hst.out⟩
              case measure => simp [intOf]; omega
            · obtain rfl : j = k := by omega
              obtain ⟨i1, i2⟩ := hF.inv
              have hse := searchM_any w2 g j A c a MA mc vm XC xc vc XY xy vy hn10 HQ.out (j * j + j) wr P fc fy b' false 0 1 (by omega) (Nat.le_refl _) (by omega) (by rw [Nat.sub_zero]; omega) hb20 i1 i2 hF.tab hI
              have hbs := hb2.size
              clear i1 i2 hF hI
              go_wp2_with (fail)
              refine hse.mono ?_
              rintro e w5 (⟨rfl, P', fc', fy', l5, sp5, h5, hD⟩ | ⟨rfl, l5, sp5, h5, -⟩)
              · have x3 := h5.cells.2.1
                have hw5 := Lib.hid (hb2.trans (h5.b.mono hbs))
                have hor : OR w5 w.heap.size 30 2 MA j mc P' := OR.more ⟨vm, h5.m⟩ hbs
                have HOR := Lib.hid hor
                have HDD := Lib.hid hD
                clear hse h5 hor hD
                go_wp2
                go_ret2
                exact ⟨MA, j, mc, 0, rfl, hw5.out, .inl ⟨rfl, HSQ.out, rfl, P', HOR.out, HDD.out⟩⟩
              · have x1 := h5.cells.1.2.1
                have hw5 := Lib.hid (hb2.trans (h5.b.mono hbs))
                clear hse h5
                cases sp5 with
                | true =>
                  go_wp2
                  go_ret2
                  exact RetMO.no hw5.out (by decide)
                | false =>
                  go_wp2
                  go_ret2
                  exact RetMO.no hw5.out (by decide)
end Go.Proofs.Ytcnjlkabdfcjdaa
