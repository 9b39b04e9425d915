/- Covers, the reference's run and its three functions. No condition beyond those stated. -/
import Derived.Test.YtdcoppighkbofaaHZ
set_option linter.unusedVariables false
set_option linter.unusedSimpArgs false
namespace Go.Proofs.Ytdcoppighkbofaa
open Go.RowKit

theorem visit_any (w0 : World) (g gp v : Nat) (OA : Option Addr) (on oc : Nat) (os : List (List Int)) (budget most : Int) (first : Bool) (hC : Cover (v : Int) os) (hM : Most most first) (hb : budget ≤ 20000) :
    ∀ (f : Nat) (w : World) (s : Cst) (ch : List Nat), s.left ≤ f → (s.left : Int) ≤ budget → stopC first s = false → Chosen os ch → s.found.length + s.left ≤ 20000 → SCs w0 w g gp v OA on oc os budget most s ch →
      Calls Try.prog 30 #[.pointer (some ⟨g, 0, none⟩)] w (RetV w0 g gp v OA on oc os budget most first (visC os v first f s ch) ch)
  | 0, w, s, ch, hf, hl, hst, hch, hfo, hS => by
    rw [visC_zero hst (by omega) (visC os v first 0)]
    exact visit_step w0 w g gp v OA on oc os budget most first s ch _ hS hC hch hst hM hb hl hfo (fun w' s' ch' h => by omega) (fun s' ch' => visC_le _ _ _ _ _ _) (fun s' ch' h => visC_stop h)
  | f + 1, w, s, ch, hf, hl, hst, hch, hfo, hS => by
    rw [visC_succ hst]
    exact visit_step w0 w g gp v OA on oc os budget most first s ch _ hS hC hch hst hM hb hl hfo
      (fun w' s' ch' h1 h2 h3 h4 h5 => visit_any w0 g gp v OA on oc os budget most first hC hM hb f w' s' ch' (by omega) (by omega) h2 h3 h4 h5) (fun s' ch' => visC_le _ _ _ _ _ _) (fun s' ch' h => visC_stop h)
/-! the whole search -/
def startC (b : Int) : Cst := ⟨b.toNat, false, []⟩
def runC (os : List (List Int)) (v b : Int) (first : Bool) : Cst := visC os v.toNat first b.toNat (startC b) []
theorem visC_out (os : List (List Int)) (v : Nat) (first : Bool) : ∀ (f : Nat) (s : Cst) (ch : List Nat), s.left ≤ f → (s.spent = true → s.left = 0) → (visC os v first f s ch).spent = true → (visC os v first f s ch).left = 0
  | 0, s, ch, hf, hs => by
    unfold visC
    split
    · exact hs
    · intro _; show s.left = 0; omega
  | f + 1, s, ch, hf, hs => by
    unfold visC
    split
    · exact hs
    · rename_i hst
      have hsp : s.spent = false := by
        unfold stopC at hst
        cases h : s.spent with
        | false => rfl
        | true => rw [h] at hst; simp at hst
      split
      · rename_i h0; intro _; exact h0
      · split
        · intro h; rw [hsp] at h; cases h
        · have h2 := foldl_inv (fun t : Cst => t.left ≤ f ∧ (t.spent = true → t.left = 0)) (fun s k => visC os v first f s (ch ++ [k]))
            (fun t k ⟨h3, h4⟩ => ⟨Nat.le_trans (visC_le os v first f t (ch ++ [k])).left h3, visC_out os v first f t (ch ++ [k]) h3 h4⟩) (choP os ch v) { s with left := s.left - 1 } ⟨by show s.left - 1 ≤ f; omega, fun h => by rw [hsp] at h; cases h⟩
          exact h2.2
theorem runC_nodes (os : List (List Int)) (v b : Int) (first : Bool) (hb : 1 ≤ b ∧ b ≤ 20000) : decide (nodesI b (runC os v b first) > b) = (runC os v b first).spent ∧ -1 ≤ nodesI b (runC os v b first) ∧ nodesI b (runC os v b first) ≤ 20001 := by
  have h1 := (visC_le os v.toNat first b.toNat (startC b) []).left
  have h2 := visC_out os v.toNat first b.toNat (startC b) [] (Nat.le_refl _) (fun h => by cases h)
  change (runC os v b first).left ≤ b.toNat at h1
  change (runC os v b first).spent = true → (runC os v b first).left = 0 at h2
  unfold nodesI
  cases h : (runC os v b first).spent with
  | true =>
    rw [h2 h]
    simp
    omega
  | false =>
    simp
    omega
/-- the search's code -/
noncomputable def covK (os : List (List Int)) (v b : Int) (first : Bool) : Int := if tB (Cover v os) then (if inB b 1 20000 then (if (runC os v b first).spent then 5 else 0) else 2) else 1
theorem covB_nil (os : List (List Int)) (x : Int) : covB os [] x = false := rfl
theorem offL_nil (os : List (List Int)) : offL os [] = List.replicate os.length 0 := by
  refine List.eq_replicate_iff.2 ⟨offL_len _ _, fun b hb => ?_⟩
  unfold offL at hb
  obtain ⟨i, _, rfl⟩ := List.mem_map.1 hb
  simp [offN]
theorem flags_nil (os : List (List Int)) (v : Nat) : List.replicate v (Value.bool false) = flags v (fun x => covB os [] (x : Nat)) := by
  refine (List.eq_replicate_iff.2 ⟨flags_len _ _, fun b hb => ?_⟩).symm
  unfold flags at hb
  obtain ⟨i, _, rfl⟩ := List.mem_map.1 hb
  rfl
theorem bool_info' : (Try.prog.info? 4).map (fun i => (i.zero, i.size, i.bytes)) = some (some (.bool false), 1, 1) := by kernel_rfl
/-- what a run of the reference returns -/
def RetRun (w : World) (gp : Nat) (v : Int) (OA : Option Addr) (on oc : Nat) (os : List (List Int)) (b most : Int) (first : Bool) (e : Ending) (w' : World) : Prop :=
  e = .returned (.tuple #[.pointer (some ⟨w.heap.size, 0, none⟩), .int .i64 (covK os v b first)]) ∧ Below w.heap.size w w' ∧ (covK os v b first = 0 → SCs w w' w.heap.size gp v.toNat OA on oc os b most (runC os v b first) [])
theorem SCf.start {w w2 : World} {gp v : Nat} {OA : Option Addr} {on oc : Nat} {os : List (List Int)} {b most : Int} (X : Blk w2 w.heap.size 48 #[.pointer (some ⟨gp, 0, none⟩), .slice none 0 0, .slice none 0 0, .slice none 0 0, .slice none 0 0, .int .i64 0, .int .i64 0, .int .i64 b, .int .i64 most])
    (P : Blk w2 gp 28 #[.int .i64 v, .slice OA on oc]) (hb : Below w.heap.size w w2) (ho : RR w OA on os) (hpl : gp < w.heap.size) (hv : v ≤ 64) (hn : on ≤ 256) :
    SCf w ((((w2.alloc (.cells (madeCells #[.bool false] v) 4)).setCell ⟨w.heap.size, 1, none⟩ (.slice (some ⟨w2.heap.size, 0, none⟩) v v)).alloc (.cells (madeCells #[.int .i64 0] on) 2)).setCell ⟨w.heap.size, 2, none⟩ (.slice (some ⟨w2.heap.size + 1, 0, none⟩) on on))
      w.heap.size gp v OA on oc os w2.heap.size (some ⟨w2.heap.size + 1, 0, none⟩) on none 0 0 none 0 0 0 0 b most (fun x => covB os [] (x : Nat)) (offL os []) [] [] [] := by
  have hX := X.lt
  have hB : w.heap.size + 1 ≤ w2.heap.size := hX
  have hlow : ∀ i, (⟨w.heap.size, i, none⟩ : Addr).block < w.heap.size + 1 := fun i => Nat.lt_succ_self _
  have hd := ((((OS.made w2 (w.heap.size + 1) 4 (.bool false) v hB (by omega)).setLow (hlow 1) (.slice (some ⟨w2.heap.size, 0, none⟩) v v)).alloc (.cells (madeCells #[.int .i64 0] on) 2)).setLow (hlow 2) (.slice (some ⟨w2.heap.size + 1, 0, none⟩) on on))
  rw [flags_nil os] at hd
  obtain ⟨W3, hW3⟩ : ∃ W3, (w2.alloc (.cells (madeCells #[.bool false] v) 4)).setCell ⟨w.heap.size, 1, none⟩ (.slice (some ⟨w2.heap.size, 0, none⟩) v v) = W3 := ⟨_, rfl⟩
  have hs3 : W3.heap.size = w2.heap.size + 1 := by rw [← hW3]; simp
  have b3 : Below w.heap.size w W3 := hW3 ▸ (hb.trans ((below_alloc w2 _).mono hb.size)).setCell (Nat.le_refl _) _
  have X3 : Blk W3 w.heap.size 48 #[.pointer (some ⟨gp, 0, none⟩), .slice (some ⟨w2.heap.size, 0, none⟩) v v, .slice none 0 0, .slice none 0 0, .slice none 0 0, .int .i64 0, .int .i64 0, .int .i64 b, .int .i64 most] := hW3 ▸ (X.alloc _).set_ 1 _
  have P3 : Blk W3 gp 28 #[.int .i64 v, .slice OA on oc] := hW3 ▸ (P.alloc _).far (by show gp ≠ w.heap.size; omega) _
  rw [hW3] at hd ⊢
  have hf := (OI.made W3 (w.heap.size + 1) 2 on (by omega) (by omega)).setLow (hlow 2) (.slice (some ⟨w2.heap.size + 1, 0, none⟩) on on)
  rw [hs3, ← ho.len, ← offL_nil] at hf
  rw [ho.len] at hf
  refine ⟨⟨(X3.alloc _).set_ 2 _, (P3.alloc _).far (by show gp ≠ w.heap.size; omega) _, (b3.trans ((below_alloc W3 _).mono b3.size)).setCell (Nat.le_refl _) _, ho, rfl, hpl, hd, ?_, OI.nil_ _ _ _⟩, ⟨OS.nil_ _ _ _ _, rfl, fun j u z h => by simp at h, fun i j u x _ h => by simp at h, by decide⟩, fun j u h => by simp at h, fun j u h => by simp at h, .inl rfl⟩
  exact hf
set_option maxRecDepth 100000 in
set_option maxHeartbeats 4000000 in
theorem l24Run_any (gp : Nat) (v : Int) (OA : Option Addr) (on oc : Nat) (os : List (List Int)) (b most : Int) (first : Bool) (w : World) (hp : Blk w gp 28 #[.int .i64 v, .slice OA on oc]) (ho : RR w OA on os) (hn : on ≤ 9223372036854775807) (hM : Most most first) :
    Calls Try.prog 23 #[.pointer (some ⟨gp, 0, none⟩), .int .i64 b, .int .i64 most] w (RetRun w gp v OA on oc os b most first) := by
  obtain ⟨W1, hW1⟩ : ∃ W1, w.alloc (.cells #[.pointer (some ⟨gp, 0, none⟩), .slice none 0 0, .slice none 0 0, .slice none 0 0, .slice none 0 0, .int .i64 0, .int .i64 0, .int .i64 b, .int .i64 most] 48) = W1 := ⟨_, rfl⟩
  have hb1 : Below w.heap.size w W1 := hW1 ▸ below_alloc w _
  have X : Blk W1 w.heap.size 48 #[.pointer (some ⟨gp, 0, none⟩), .slice none 0 0, .slice none 0 0, .slice none 0 0, .slice none 0 0, .int .i64 0, .int .i64 0, .int .i64 b, .int .i64 most] := hW1 ▸ Blk.new w _ _
  have P1 := hp.after hb1
  have hok := l24Ok_any gp v OA on oc os W1 P1 (ho.keep hb1) hn
  have hpl := hp.lt
  cases hc : tB (Cover v os) with
  | false =>
    rw [hc] at hok
    have HK := Lib.hid (show covK os v b first = 1 by rw [covK, hc]; rfl)
    go_enter Try.func23, Try.ntmps23
    go_wp2_with (go_at_call 28; refine hok.mono ?_; rintro e w2 ⟨rfl, hd2⟩)
    go_ret2
    refine ⟨by rw [HK.out]; rfl, hb1.trans (hd2.below.mono hb1.size), fun h => by rw [HK.out] at h; cases h⟩
  | true =>
    rw [hc] at hok
    have hC := tB_true.1 hc
    cases hi : inB b 1 20000 with
    | false =>
      have HK := Lib.hid (show covK os v b first = 2 by rw [covK, hc, hi]; rfl)
      go_enter Try.func23, Try.ntmps23
      go_wp2_with (first | (go_at_call 28; refine hok.mono ?_; rintro e w2 ⟨rfl, hd2⟩) | (go_at_call 29; refine (l00In_any _ _ _ _).mono ?_; rintro e w3 ⟨rfl, rfl⟩; rw [hi]))
      go_ret2
      refine ⟨by rw [HK.out]; rfl, hb1.trans (hd2.below.mono hb1.size), fun h => by rw [HK.out] at h; cases h⟩
    | true =>
      obtain ⟨v', rfl⟩ : ∃ v' : Nat, v = (v' : Int) := ⟨v.toNat, by have := hC.v1; omega⟩
      have hbb := inB_true hi
      have hv := hC.v2
      have hol := ho.len
      have hon : on ≤ 256 := by have := hC.len; omega
      have hvn : (v' : Int) ≤ 64 := hv
      have hmk1 := run_make_row' (P := Try.prog) 46 4 (.bool false) 1 Try.underlying46 bool_info' rfl .i64 .i64 v' (by omega) (by omega)
      have hmk2 := run_make_row' (P := Try.prog) 32 2 (.int .i64 0) 8 Try.underlying32 int_info rfl .i64 .i64 on (by omega) (by omega)
      have HO := Lib.hid ho
      have HC := Lib.hid hC
      have hwl := hb1.size
      clear ho hol hC
      go_enter Try.func23, Try.ntmps23
      go_wp2_with fail
      refine hok.mono ?_
      rintro e w2 ⟨rfl, hd2⟩
      have X2 := X.after hd2.below
      have P2 := P1.after hd2.below
      have hb2 := hb1.trans (hd2.below.mono hb1.size)
      have hs := SCf.start X2 P2 hb2 HO.out hpl (by omega) hon
      obtain ⟨p0, p1⟩ := P2.cells2
      obtain ⟨WA, hWA⟩ : ∃ WA, w2.alloc (.cells (madeCells #[.bool false] v') 4) = WA := ⟨_, rfl⟩
      have XA := X2.alloc (.cells (madeCells #[.bool false] v') 4)
      have PA := P2.alloc (.cells (madeCells #[.bool false] v') 4)
      have sA : WA.heap.size = w2.heap.size + 1 := by rw [← hWA]; simp
      rw [hWA] at XA PA hs
      obtain ⟨WB, hWB⟩ : ∃ WB, WA.setCell ⟨w.heap.size, 1, none⟩ (.slice (some ⟨w2.heap.size, 0, none⟩) v' v') = WB := ⟨_, rfl⟩
      have XB := XA.set_ 1 (.slice (some ⟨w2.heap.size, 0, none⟩) v' v')
      have PB := PA.far (p := ⟨w.heap.size, 1, none⟩) (by show gp ≠ w.heap.size; omega) (.slice (some ⟨w2.heap.size, 0, none⟩) v' v')
      rw [hWB] at XB PB hs
      have sB : WB.heap.size = w2.heap.size + 1 := by rw [← hWB]; simpa using sA
      obtain ⟨WC, hWC⟩ : ∃ WC, WB.alloc (.cells (madeCells #[.int .i64 0] on) 2) = WC := ⟨_, rfl⟩
      have XC := XB.alloc (.cells (madeCells #[.int .i64 0] on) 2)
      have PC := PB.alloc (.cells (madeCells #[.int .i64 0] on) 2)
      rw [hWC] at XC PC hs
      obtain ⟨WD, hWD⟩ : ∃ WD, WC.setCell ⟨w.heap.size, 2, none⟩ (.slice (some ⟨w2.heap.size + 1, 0, none⟩) on on) = WD := ⟨_, rfl⟩
      rw [hWD] at hs
      obtain ⟨p0, p1⟩ := P2.cells2
      obtain ⟨q0, q1⟩ := PB.cells2
      have za := XA.frozen 1
      have zc := XC.frozen 2
      have ca : WA.cell? ⟨w.heap.size, 1, none⟩ = some (.slice none 0 0) := XA.cell 1
      have cc : WC.cell? ⟨w.heap.size, 2, none⟩ = some (.slice none 0 0) := XC.cell 2
      have hss : SCs w WD w.heap.size gp v' OA on oc os b most (startC b) [] := by
        have e : nodesI b (startC b) = 0 := by
          unfold nodesI startC
          simp only [Bool.false_eq_true, if_false]
          omega
        unfold SCs
        rw [e]
        have e2 : foundM most (startC b).found = [] := by unfold foundM startC; split <;> rfl
        rw [e2]
        exact ⟨_, _, _, _, _, _, _, _, _, _, hs⟩
      have hvis := visit_any w w.heap.size gp v' OA on oc os b most first HC.out hM hbb.2 b.toNat WD (startC b) [] (Nat.le_refl _) (by show ((b.toNat : Nat) : Int) ≤ b; omega) (by simp [stopC, startC]) (Chosen.nil os) (by simp [startC]; omega) hss
      have HBB := Lib.hid hbb
      clear hs hss hok hd2 XA PA XB PB XC PC X X2 P1 P2
      go_wp2_with (first | (go_at_call 29; refine (l00In_any _ _ _ _).mono ?_; rintro e w3 ⟨rfl, rfl⟩; rw [hi]) | fail)
      obtain ⟨hn1, hn2, hn3⟩ := runC_nodes os v' b first HBB.out
      have HK := Lib.hid (show covK os v' b first = if (runC os v' b first).spent then 5 else 0 by rw [covK, hc, hi]; rfl)
      have bD : Below w.heap.size w WD := by
        have b1 := hb2.trans ((below_alloc w2 (.cells (madeCells #[.bool false] v') 4)).mono hb2.size)
        rw [hWA] at b1
        have b2 := b1.setCell (p := ⟨w.heap.size, 1, none⟩) (Nat.le_refl _) (.slice (some ⟨w2.heap.size, 0, none⟩) v' v')
        rw [hWB] at b2
        have b3 := b2.trans ((below_alloc WB (.cells (madeCells #[.int .i64 0] on) 2)).mono b2.size)
        rw [hWC] at b3
        have b4 := b3.setCell (p := ⟨w.heap.size, 2, none⟩) (Nat.le_refl _) (.slice (some ⟨w2.heap.size + 1, 0, none⟩) on on)
        rwa [hWD] at b4
      refine hvis.mono ?_
      rintro e w4 ⟨rfl, hS4⟩
      change SCs w w4 w.heap.size gp v' OA on oc os b most (runC os v' b first) [] at hS4
      have HS4 := Lib.hid hS4
      obtain ⟨D4, O4, fc4, C4, m4, mc4, FA4, fn4, fk4, vs4, h4⟩ := hS4
      obtain ⟨-, -, -, y6, -⟩ := h4.s.cells
      have b4 := Lib.hid h4.s.b
      have HR := Lib.hid (show ∀ W', Below w4.heap.size w4 W' → SCs w W' w.heap.size gp v' OA on oc os b most (runC os v' b first) [] from fun W' hb => by
        obtain ⟨D4, O4, fc4, C4, m4, mc4, FA4, fn4, fk4, vs4, h4⟩ := HS4.out
        exact ⟨_, _, _, _, _, _, _, _, _, _, h4.below hb⟩)
      generalize nodesI b (runC os v' b first) = nn at *
      clear hvis h4 hWA hWB hWC hWD hW1 sA sB za zc ca cc p0 p1 q0 q1 hmk1 hmk2
      clear D4 O4 fc4 C4 m4 mc4 FA4 fn4 fk4 vs4
      cases hsp : (runC os v' b first).spent with
      | true =>
        rw [hsp] at hn1
        have hgt : nn > b := of_decide_eq_true hn1
        have HK2 := Lib.hid (show covK os v' b first = 5 by rw [HK.out, hsp]; rfl)
        clear hn1 hsp HK
        go_wp2
        go_ret2
        exact ⟨by rw [HK2.out]; rfl, b4.out, fun h => by rw [HK2.out] at h; cases h⟩
      | false =>
        rw [hsp] at hn1
        have hgt : ¬ nn > b := of_decide_eq_false hn1
        have HK2 := Lib.hid (show covK os v' b first = 0 by rw [HK.out, hsp]; rfl)
        clear hn1 hsp HK
        go_wp2
        go_ret2
        exact ⟨by rw [HK2.out]; rfl, b4.out, fun _ => HR.out _ (Below.refl _ _)⟩
end Go.Proofs.Ytdcoppighkbofaa
/- Covers, the reference's three functions. No condition beyond those stated. -/
namespace Go.Proofs.Ytdcoppighkbofaa
open Go.RowKit

/-- all covers, their number, and the first one, if there is one -/
noncomputable def covA (os : List (List Int)) (v b : Int) : List (List Int) := if covK os v b false = 0 then (runC os v b false).found else []
noncomputable def covFL (os : List (List Int)) (v b : Int) : List Int := if covK os v b true = 0 then row (runC os v b true).found 0 else []
noncomputable def covFK (os : List (List Int)) (v b : Int) : Int := if covK os v b true = 0 ∧ (runC os v b true).found = [] then 3 else covK os v b true
def RetNC (w : World) (x code : Int) (e : Ending) (w' : World) : Prop := e = .returned (.tuple #[.int .i64 x, .int .i64 code]) ∧ Below w.heap.size w w'
theorem covK_bd (os : List (List Int)) (v b : Int) (first : Bool) : 0 ≤ covK os v b first ∧ covK os v b first ≤ 5 := by
  unfold covK
  split
  · split
    · split <;> omega
    · omega
  · omega
set_option maxHeartbeats 1000000 in
theorem spec_CountCovers (v : Int) (OA : Option Addr) (on oc : Nat) (os : List (List Int)) (b : Int) (w : World) (ho : RR w OA on os) (hn : on ≤ 9223372036854775807) :
    Calls Try.prog 7 #[.agg #[.int .i64 v, .slice OA on oc], .int .i64 b] w (RetNC w ((covA os v b).length : Nat) (covK os v b false)) := by
  obtain ⟨W1, hW1⟩ : ∃ W1, w.alloc (.cells #[.int .i64 v, .slice OA on oc] 28) = W1 := ⟨_, rfl⟩
  have hb1 : Below w.heap.size w W1 := hW1 ▸ below_alloc w _
  have X : Blk W1 w.heap.size 28 #[.int .i64 v, .slice OA on oc] := hW1 ▸ Blk.new w _ _
  have hrun := l24Run_any w.heap.size v OA on oc os b 0 false W1 X (ho.keep hb1) hn (.inl ⟨rfl, rfl⟩)
  have hkb := covK_bd os v b false
  have HA := Lib.hid (show ((covA os v b).length : Int) = if covK os v b false = 0 then ((runC os v b false).found.length : Nat) else 0 by unfold covA; split <;> rfl)
  go_enter Try.func7, Try.ntmps7
  go_wp2_with fail
  refine hrun.mono ?_
  rintro e w2 ⟨rfl, hb2, hS⟩
  have HB := Lib.hid (hb1.trans (hb2.mono hb1.size))
  have HS := Lib.hid hS
  clear hrun hS hb2 hW1
  generalize covK os v b false = K at *
  by_cases hK : K = 0
  · subst hK
    obtain ⟨D4, O4, fc4, C4, m4, mc4, FA4, fn4, fk4, vs4, h4⟩ := HS.out rfl
    obtain ⟨-, -, y5, -⟩ := h4.s.cells
    clear h4
    go_wp2
    go_ret2
    refine ⟨?_, HB.out⟩
    rw [HA.out, if_pos (by trivial)]
    rfl
  · have hK' : (K == 0) = false := by simpa using hK
    go_wp2
    go_ret2
    refine ⟨?_, HB.out⟩
    rw [HA.out, if_neg hK]
    rfl
set_option maxHeartbeats 1000000 in
theorem spec_AllCovers (v : Int) (OA : Option Addr) (on oc : Nat) (os : List (List Int)) (b : Int) (w : World) (ho : RR w OA on os) (hn : on ≤ 9223372036854775807) :
    Calls Try.prog 17 #[.agg #[.int .i64 v, .slice OA on oc], .int .i64 b] w (RetRC w 32 2 (covA os v b) (covK os v b false)) := by
  obtain ⟨W1, hW1⟩ : ∃ W1, w.alloc (.cells #[.int .i64 v, .slice OA on oc] 28) = W1 := ⟨_, rfl⟩
  have hb1 : Below w.heap.size w W1 := hW1 ▸ below_alloc w _
  have X : Blk W1 w.heap.size 28 #[.int .i64 v, .slice OA on oc] := hW1 ▸ Blk.new w _ _
  have hrun := l24Run_any w.heap.size v OA on oc os b 20001 false W1 X (ho.keep hb1) hn (.inr (.inr ⟨rfl, rfl⟩))
  have hkb := covK_bd os v b false
  have HA := Lib.hid (show covA os v b = if covK os v b false = 0 then (runC os v b false).found else [] from rfl)
  have hsz := Lib.hid hb1.size
  go_enter Try.func17, Try.ntmps17
  go_wp2_with fail
  refine hrun.mono ?_
  rintro e w2 ⟨rfl, hb2, hS⟩
  have HB := Lib.hid (hb1.trans (hb2.mono hb1.size))
  have HS := Lib.hid hS
  clear hrun hS hb2 hW1
  generalize covK os v b false = K at *
  by_cases hK : K = 0
  · subst hK
    obtain ⟨D4, O4, fc4, C4, m4, mc4, FA4, fn4, fk4, vs4, h4⟩ := HS.out rfl
    obtain ⟨-, ⟨-, -, -, -, y4⟩, -⟩ := h4.s.cells
    have HR := Lib.hid h4.r
    clear h4
    go_wp2
    go_ret2
    refine ⟨_, _, _, rfl, ?_, HB.out⟩
    rw [HA.out, if_pos (by trivial)]
    have := HR.out
    rw [show foundM 20001 (runC os v b false).found = (runC os v b false).found from rfl] at this
    exact OR.more ⟨_, this⟩ (Nat.le_succ_of_le hsz.out)
  · have hK' : (K == 0) = false := by simpa using hK
    go_wp2
    go_ret2
    refine ⟨_, _, _, rfl, ?_, HB.out⟩
    rw [HA.out, if_neg hK]
    exact OR.nil_ _ _ (by decide)
set_option maxRecDepth 100000 in
set_option maxHeartbeats 1000000 in
theorem spec_FirstCover (v : Int) (OA : Option Addr) (on oc : Nat) (os : List (List Int)) (b : Int) (w : World) (ho : RR w OA on os) (hn : on ≤ 9223372036854775807) :
    Calls Try.prog 11 #[.agg #[.int .i64 v, .slice OA on oc], .int .i64 b] w (RetIC w 2 (covFL os v b) (covFK os v b)) := by
  obtain ⟨W1, hW1⟩ : ∃ W1, w.alloc (.cells #[.int .i64 v, .slice OA on oc] 28) = W1 := ⟨_, rfl⟩
  have hb1 : Below w.heap.size w W1 := hW1 ▸ below_alloc w _
  have X : Blk W1 w.heap.size 28 #[.int .i64 v, .slice OA on oc] := hW1 ▸ Blk.new w _ _
  have hrun := l24Run_any w.heap.size v OA on oc os b 1 true W1 X (ho.keep hb1) hn (.inr (.inl ⟨rfl, rfl⟩))
  have hkb := covK_bd os v b true
  have HA := Lib.hid (show covFL os v b = if covK os v b true = 0 then row (runC os v b true).found 0 else [] from rfl)
  have HF := Lib.hid (show covFK os v b = if covK os v b true = 0 ∧ (runC os v b true).found = [] then 3 else covK os v b true from rfl)
  have hsz := Lib.hid hb1.size
  go_enter Try.func11, Try.ntmps11
  go_wp2_with fail
  refine hrun.mono ?_
  rintro e w2 ⟨rfl, hb2, hS⟩
  have HB := Lib.hid (hb1.trans (hb2.mono hb1.size))
  have HS := Lib.hid hS
  clear hrun hS hb2 hW1
  generalize covK os v b true = K at *
  by_cases hK : K = 0
  · subst hK
    obtain ⟨D4, O4, fc4, C4, m4, mc4, FA4, fn4, fk4, vs4, h4⟩ := HS.out rfl
    obtain ⟨-, ⟨-, -, -, -, y4⟩, y5, -⟩ := h4.s.cells
    have hr := h4.r
    rw [show foundM 1 (runC os v b true).found = (runC os v b true).found from rfl] at hr
    clear h4 HS
    generalize (runC os v b true).found = fd at *
    have hlen := hr.slen
    by_cases h0 : fd = []
    · subst h0
      obtain rfl : fn4 = 0 := by simpa using hlen.symm
      clear hr hlen
      go_wp2
      go_ret2
      refine ⟨none, 0, 0, ?_, ?_, HB.out⟩
      · rw [HF.out, if_pos (by simp)]; rfl
      · rw [HA.out, if_pos (by trivial)]
        exact OI.nil_ _ _ _
    · have hpos : 0 < fn4 := by rw [← hlen]; exact List.length_pos_iff.2 h0
      obtain ⟨g4, v4, rfl, hv4, c4, -, hr4⟩ := hr.get hpos
      have hl0 : (((fd.length : Nat) : Int) == 0) = false := by rw [hlen]; simp; omega
      have HR := Lib.hid hr4
      have H0 := Lib.hid h0
      clear hr hr4 h0 hlen
      go_wp2
      go_ret2
      refine ⟨v4.1, v4.2.1, v4.2.2, ?_, ?_, HB.out⟩
      · rw [HF.out, if_neg (fun h => H0.out h.2)]; rfl
      · rw [HA.out, if_pos (by trivial)]
        exact HR.out.more (Nat.le_succ_of_le hsz.out)
  · have hK' : (K == 0) = false := by simpa using hK
    go_wp2
    go_ret2
    refine ⟨none, 0, 0, ?_, ?_, HB.out⟩
    · rw [HF.out, if_neg (fun h => hK h.1)]; rfl
    · rw [HA.out, if_neg hK]
      exact OI.nil_ _ _ _
end Go.Proofs.Ytdcoppighkbofaa
/- Covers: how long the results are. No condition beyond those stated. -/
namespace Go.Proofs.Ytdcoppighkbofaa
open Go.RowKit

theorem foldl_inv_mem {α β : Type} (P : β → Prop) (g : β → α → β) : ∀ (l : List α) (b : β), (∀ b a, a ∈ l → P b → P (g b a)) → P b → P (l.foldl g b)
  | [], _, _, h => h
  | a :: l, b, hg, h => foldl_inv_mem P g l (g b a) (fun b x hx hb => hg b x (List.mem_cons_of_mem _ hx) hb) (hg b a (List.mem_cons_self ..) h)
theorem visC_rows (os : List (List Int)) (v : Nat) (first : Bool) : ∀ (f : Nat) (s : Cst) (ch : List Nat), Chosen os ch → (∀ z ∈ s.found, z.length ≤ os.length) → ∀ z ∈ (visC os v first f s ch).found, z.length ≤ os.length
  | 0, s, ch, _, hs => by
    unfold visC
    split
    · exact hs
    · exact hs
  | f + 1, s, ch, hch, hs => by
    unfold visC
    split
    · exact hs
    · split
      · exact hs
      · split
        · intro z hz
          rcases List.mem_append.1 hz with h | h
          · exact hs z h
          · rw [List.mem_singleton.1 h]
            refine Nat.le_trans (setG_len (c := sgnI) (intsN ch)) ?_
            have := hch.len
            simpa [intsN] using this
        · refine foldl_inv_mem (fun t : Cst => ∀ z ∈ t.found, z.length ≤ os.length) (fun s k => visC os v first f s (ch ++ [k])) (choP os ch v) { s with left := s.left - 1 } (fun t k hk ht => ?_) hs
          refine visC_rows os v first f t (ch ++ [k]) ?_ ht
          unfold choP at hk
          split at hk
          · simp at hk
          · obtain ⟨h1, h2, h3⟩ := mem_optsAt.1 hk
            exact hch.snoc h1 h2 h3
theorem runC_found (os : List (List Int)) (v b : Int) (first : Bool) : (∀ z ∈ (runC os v b first).found, z.length ≤ os.length) ∧ (runC os v b first).found.length ≤ b.toNat := by
  refine ⟨visC_rows os v.toNat first b.toNat (startC b) [] (Chosen.nil os) (fun z hz => by simp [startC] at hz), ?_⟩
  have h1 := (visC_le os v.toNat first b.toNat (startC b) []).found
  have h2 : (startC b).found.length = 0 := rfl
  have h3 : (startC b).left = b.toNat := rfl
  unfold runC
  omega
theorem covK_zero {os : List (List Int)} {v b : Int} {first : Bool} (h : covK os v b first = 0) : Cover v os ∧ 1 ≤ b ∧ b ≤ 20000 := by
  unfold covK at h
  cases hc : tB (Cover v os) with
  | false => rw [hc] at h; simp at h
  | true =>
    cases hi : inB b 1 20000 with
    | false => rw [hc, hi] at h; simp at h
    | true => exact ⟨tB_true.1 hc, inB_true hi⟩
theorem cells_bd {zss : List (List Int)} {L : Nat} (h : ∀ z ∈ zss, z.length ≤ L) : cells zss ≤ zss.length * L := by
  induction zss with
  | nil => simp [cells]
  | cons z r ih =>
    have h1 := ih fun y hy => h y (List.mem_cons_of_mem _ hy)
    have h2 := h z (List.mem_cons_self ..)
    unfold cells at h1 ⊢
    rw [List.map_cons, List.sum_cons, List.length_cons, Nat.add_mul]
    omega
theorem covA_bd (os : List (List Int)) (v b : Int) : (covA os v b).length ≤ 20000 ∧ cells (covA os v b) ≤ 5120000 := by
  unfold covA
  split
  · rename_i h
    obtain ⟨hC, h1, h2⟩ := covK_zero h
    obtain ⟨h3, h4⟩ := runC_found os v b false
    have h5 := hC.len
    have h6 : cells (runC os v b false).found ≤ (runC os v b false).found.length * 256 := cells_bd fun z hz => Nat.le_trans (h3 z hz) h5
    omega
  · simp [cells]
theorem covFL_bd (os : List (List Int)) (v b : Int) : (covFL os v b).length ≤ 256 := by
  unfold covFL
  split
  · rename_i h
    obtain ⟨hC, h1, h2⟩ := covK_zero h
    obtain ⟨h3, h4⟩ := runC_found os v b true
    have h5 := hC.len
    by_cases h6 : 0 < (runC os v b true).found.length
    · rw [row_get h6]
      exact Nat.le_trans (h3 _ (List.getElem_mem h6)) h5
    · have : (runC os v b true).found = [] := List.eq_nil_of_length_eq_zero (by omega)
      rw [this]
      simp [row]
  · simp
end Go.Proofs.Ytdcoppighkbofaa
