/- One round of refinement: the reference's side. No condition beyond those stated. -/
import Derived.Test.YtkihflnenifcgaaGreatDoorZBA
import Derived.Test.YtkihflnenifcgaaGreatDoorZAL
import Derived.Deep.RegionHeldLaw
import Derived.Deep.DrawnRows
set_option linter.unusedVariables false
set_option linter.unusedSimpArgs false
namespace Go.Proofs.YtkihflnenifcgaaGreatDoor
open Go.RowKit
attribute [local go_sem ↓] Go.wp_at_zero Go.wp_at_succ

/-- lists of neighbors of n vertices -/
structure Nears (n : Nat) (near : List (List Int)) : Prop where
  len : near.length = n
  bd : ∀ v, v < n → ∀ x ∈ row near v, 0 ≤ x ∧ x < n
  few : ∀ v, v < n → (row near v).length ≤ n
theorem nearP_nears (n : Nat) (es : List Ed) : Nears n (nearP n es) :=
  ⟨nearP_len n es, fun v hv x hx => by rw [nearP_row hv] at hx; exact nearV_bd hx, fun v hv => by rw [nearP_row hv]; exact nearV_len n es v⟩
theorem Nears.at_ {n : Nat} {near : List (List Int)} (h : Nears n near) {v i : Nat} (hv : v < n) (hi : i < (row near v).length) : ∃ u : Nat, nth (row near v) i = u ∧ u < n := by
  have := h.bd v hv _ (nth_mem hi)
  exact ⟨(nth (row near v) i).toNat, by omega, by omega⟩
/-- the numbers of the first i neighbors -/
def arTo (near : List (List Int)) (cells : List Int) (v i : Nat) : List Int := ((row near v).take i).map fun w => nth cells w.toNat
theorem arTo_zero (near : List (List Int)) (cells : List Int) (v : Nat) : arTo near cells v 0 = [] := by simp [arTo]
theorem arTo_step {near : List (List Int)} {cells : List Int} {v i u : Nat} (hi : i < (row near v).length) (hu : nth (row near v) i = u) : arTo near cells v (i + 1) = arTo near cells v i ++ [nth cells u] := by
  unfold arTo
  rw [List.take_succ_eq_append_getElem hi, List.map_append, ← nth_get hi, hu]
  simp
theorem arTo_all (near : List (List Int)) (cells : List Int) (v : Nat) : arTo near cells v (row near v).length = (row near v).map fun w => nth cells w.toNat := by simp [arTo]
theorem arTo_len (near : List (List Int)) (cells : List Int) (v i : Nat) : (arTo near cells v i).length ≤ i := by simp [arTo]; omega
/-- the keys of the first k vertices -/
def keysTo (near : List (List Int)) (cells : List Int) (k : Nat) : List (List Int) := (List.range k).map (keyP near cells)
theorem keysTo_zero (near : List (List Int)) (cells : List Int) : keysTo near cells 0 = [] := rfl
theorem keysTo_step (near : List (List Int)) (cells : List Int) (k : Nat) : keysTo near cells (k + 1) = keysTo near cells k ++ [keyP near cells k] := by simp [keysTo, List.range_succ]
theorem keysTo_all (near : List (List Int)) (cells : List Int) : keysTo near cells cells.length = keysP near cells := rfl
theorem keysTo_len (near : List (List Int)) (cells : List Int) (k : Nat) : (keysTo near cells k).length = k := by simp [keysTo]
theorem keyP_arTo (near : List (List Int)) (cells : List Int) (v : Nat) : keyP near cells v = [nth cells v] ++ srt (arTo near cells v (row near v).length) := by rw [arTo_all]; rfl
theorem kinds_eq {near : List (List Int)} {cells key : List Int} {v : Nat} (hi : (kindsP near cells)[idxG cmpL (kindsP near cells) key]? = some key) (hv : v < (kindsP near cells).length) :
    cmpL (row (kindsP near cells) v) key = 0 ↔ v = idxG cmpL (kindsP near cells) key := by
  constructor
  · intro h
    have e := cmpL_zero h
    rw [row_get hv] at e
    have := idxG_at cmpL_ord (kindsP_strict (near := near) (cells := cells)) hv
    rw [e] at this
    exact this.symm
  · intro h
    rw [← h] at hi
    rw [row_eq hi]
    exact cmpL_refl key
/-- nothing that w held has changed, and this is what stands there -/
def BC (w : World) (p : Addr) (v : Value) (w' : World) : Prop := Below w.heap.size w w' ∧ w'.cell? p = some v
theorem BC.of {w w' : World} {p : Addr} {v : Value} (h : w.cell? p = some v) (hb : Below w.heap.size w w') : BC w p v w' := ⟨hb, below_cell hb h⟩
theorem rowsApart {vs : List Sl} {i D g : Nat} {v : Sl} (H : ∀ (j : Nat) (u : Sl) (b : Nat), vs[j]? = some u → blk u.1 = some b → b < D) (hv : vs[i]? = some v) (hg : D ≤ g) : blk v.1 = none ∨ blk v.1 ≠ some g := by
  cases hb : blk v.1 with
  | none => exact .inl rfl
  | some b => exact .inr fun e => by have := H i v b hv hb; injection e with e; omega
theorem rowsApart' {vs : List Sl} {i D : Nat} {v u : Sl} (H : ∀ (j : Nat) (u : Sl) (b : Nat), vs[j]? = some u → blk u.1 = some b → b < D) (hu : ∀ b, blk u.1 = some b → D ≤ b) (hv : vs[i]? = some v) : apart v u := by
  unfold apart
  cases hb : blk v.1 with
  | none => exact .inl rfl
  | some b => exact .inr fun e => by have := H i v b hv hb; have := hu b e.symm; omega
set_option maxRecDepth 100000 in
set_option maxHeartbeats 4000000 in
theorem l21Round_any (L : Option Addr) (n c : Nat) (near : List (List Int)) (A : Option Addr) (d : Nat) (cells : List Int) (w : World) (ha : RR w L n near) (hc : RI w A n cells) (hn : n ≤ 4096) (hnr : Nears n near) :
    Calls Tryz.prog 125 #[.slice L n c, .slice A n d] w (RetI w 2 (roundP near cells)) := by
  have hla := Lib.hid ha.len
  have hlc := Lib.hid hc.len
  have HN := Lib.hid hnr; clear hnr
  have ho0 : ORv (w.alloc (.cells #[] 24)) w.heap.size 24 2 (some ⟨w.heap.size, 0, none⟩) 0 0 [] [] := ⟨OS.lit w w.heap.size 24 1 0 #[] (Nat.le_refl _) rfl (by omega), rfl, fun _ _ _ h => by simp at h, fun _ _ _ _ _ h => by simp at h, by decide⟩
  have hw0 := below_alloc w (.cells #[] 24)
  go_enter Tryz.func125, Tryz.ntmps125
  go_wp2
  go_loopw [6, 7] (fun v i wr => ∃ (k : Nat) (A' : Option Addr) (c' : Nat) (vs : List Sl), k ≤ n ∧ i = .int .i64 k ∧ v = .slice A' k c' ∧ ORv wr w.heap.size 24 2 A' k c' vs (keysTo near cells k) ∧ Below w.heap.size w wr) (fun _ i _ => n - (intOf i).toNat)
  case atStart => exact ⟨0, _, _, [], Nat.zero_le _, rfl, rfl, ho0, hw0⟩
  case round =>
    obtain ⟨k, A', c', vs, hk, rfl, rfl, ho, hw⟩ := hrel
    clear ho0 hw0
    by_cases hlt : k < n
    · obtain ⟨aL, Y, p1, q1, rfl, hcL, hp1, hq1, hri⟩ := ha.get hlt
      obtain ⟨aC, rfl, hcC, hiC⟩ := hc.get hlt
      have hfew := HN.out.few k hlt
      have hly := Lib.hid hri.len
      have hp1n : p1 ≤ n := by rw [← hly.out]; exact hfew
      have hl0 := OI.lit wr w.heap.size 2 [] hw.size (by simp) All64.nil_
      have hb0 := below_alloc wr (.cells #[] 2)
      have hov0 := ho.below hb0
      have hww0 := hw.trans (hb0.mono hw.size)
      have HV := Lib.hid (fun j u b hu hb => (ho.row_lt hu hb).2 : ∀ (j : Nat) (u : Sl) (b : Nat), vs[j]? = some u → blk u.1 = some b → b < wr.heap.size)
      have HCL := Lib.hid hcL
      have HCC := Lib.hid hcC
      clear ho hcL hcC hfew
      go_wp2
      obtain ⟨wo, rfl⟩ : ∃ wo : World, wo = wr := ⟨_, rfl⟩
      go_loopw [8, 9] (fun v i w2 => ∃ (j : Nat) (A2 : Option Addr) (c2 : Nat), j ≤ p1 ∧ i = .int .i64 j ∧ v = .slice A2 j c2 ∧ OI w2 w.heap.size 2 A2 j c2 (arTo near cells k j) ∧ ORv w2 w.heap.size 24 2 A' k c' vs (keysTo near cells k) ∧ Below w.heap.size w w2 ∧ wo.heap.size ≤ w2.heap.size ∧ ∀ b, blk A2 = some b → wo.heap.size ≤ b) (fun _ i _ => p1 - (intOf i).toNat)
      case atStart => exact ⟨0, _, _, Nat.zero_le _, rfl, rfl, by rw [arTo_zero]; exact hl0, hov0, hww0, hb0.size, fun b hb => by simp [blk] at hb; omega⟩
      case round =>
        clear hl0 hb0 hov0 hww0
        obtain ⟨j, A2, c2, hj, rfl, rfl, hl, hov, hw2, hs2, hB2⟩ := hrel
        have hcL2 := below_cell hw2 HCL.out
        have hB2' := Lib.hid hB2
        clear hB2
        by_cases hjl : j < p1
        · obtain ⟨aY, rfl, hcY, hiY⟩ := (hri.keep hw2).get hjl
          obtain ⟨u, hu, hun⟩ := HN.out.at_ hlt (i := j) (by rw [hly.out]; exact hjl)
          obtain ⟨aC2, e2, hcU, hiU⟩ := (hc.keep hw2).get hun
          injection e2 with e2
          subst e2
          have HA := Lib.hid (arTo_step (cells := cells) (by rw [hly.out]; exact hjl) hu)
          rw [hu] at hcY
          clear hu hiY
          generalize nth cells u = z at *
          go_wp2_with (at_builtin; refine app_int _ rfl (.tmp 33) (.tmp 44) rfl w.heap.size A2 j c2 _ rfl hl z _ rfl (by simp) hiU (by omega) hw2.size ?_; intro A3 c3 w3 ho3 hg3 hn3)
          have hw3 := below_own hw2 hg3 hw2.size (fun b hb => (hl.os.lt hb).1)
          have hov3 := hov.kept hg3 (OS.typed hov.os hl.os (by decide)) (fun i v hv => by
            cases hb : blk v.1 with
            | none => exact .inl rfl
            | some b => exact .inr fun e => by have h1 := HV.out i v b hv hb; have h2 := hB2'.out b e.symm; omega)
          have hs3 := hg3.size
          have HB3 := Lib.hid (fun b hb => by
            rcases hn3 with h1 | ⟨b', h1, h2⟩
            · exact hB2'.out b (by rw [← h1]; exact hb)
            · rw [hb] at h1; injection h1 with h1; omega : ∀ b, blk A3 = some b → wo.heap.size ≤ b)
          clear hl hov hg3 hn3 hcY hcU hcL2
          go_roundw
          case rel => exact ⟨j + 1, _, _, by omega, by go_num, rfl, by rw [HA.out]; exact ho3, hov3, hw3, by omega, HB3.out⟩
          case measure => simp [intOf]; omega
        · obtain rfl : j = p1 := by omega
          have hcC2 := below_cell hw2 HCC.out
          have HK := Lib.hid (keyP_arTo near cells k)
          rw [hly.out] at HK
          have HT := Lib.hid (keysTo_step near cells k)
          have HD := Lib.hid HCC.out
          generalize nth cells k = z at *
          generalize arTo near cells k j = ar at *
          have hrl := hl.reads
          go_wp2
          go_region_held_law (fun w' => Below w.heap.size w w' ∧ w'.cell? (aC.add k) = some (.int .i64 z))
            (first | exact BC.of HD.out (hw2.trans (below_drewn' _ _ 1)) | exact BC.of HD.out (hw2.trans (((below_alloc wr _).trans (below_drewn' _ _ 1)).mono hw2.size)) | exact BC.of HD.out (by assumption) | exact BC.of HD.out ((by assumption : Below w.heap.size w _).trans ((below_alloc _ _).mono (Below.size (by assumption : Below w.heap.size w _)))))
            (first
              | (go_at_call 148; (with_reducible refine (l21Sorted_any _ _ _ ar _ ?_ ?_).mono ?_); (first | exact hrl.keep (below_drewn _ 1) | exact hrl.keep ((below_alloc wr _).trans (below_drewn' _ _ 1))); (omega); rintro e w3 ⟨A3, n3, c3, rfl, ho3, hb3⟩; have hw3 : Below w.heap.size w w3 := by (first | exact (hw2.trans (below_drewn' _ _ 1)).trans (hb3.mono hw2.size) | exact (hw2.trans (((below_alloc wr _).trans (below_drewn' _ _ 1)).mono hw2.size)).trans (hb3.mono (by have := hw2.size; simp; omega))))
              | (refine step_of_list (by rfl) ?_; refine app_ints _ (by rfl) _ _ (by rfl) w.heap.size (some ⟨wr.heap.size, 0, none⟩) 1 1 [z] (by rfl) (((OI.lit wr w.heap.size 2 [z] hw2.size (by simp) (All64.one hiC)).drewN 1).below hb3) A3 n3 c3 (srt ar) (by rfl) ho3.reads (by have h1 := ho3.len; have h2 := hl.len; rw [srt_len] at h1; omega) hw3.size ?_; intro A4 c4 w4 ho4 hg4 hn4; have hw4 : Below w.heap.size w w4 := below_own hw3 hg4 hw3.size (fun b hb => by simp [blk] at hb; have := hw2.size; omega); have hz3 := hb3.size; have hov4 := ((hov.below ((below_alloc wr (.cells #[.int .i64 z] 2)).trans (below_drewn' _ _ 1))).below hb3).kept hg4 (OS.typed ((hov.below ((below_alloc wr (.cells #[.int .i64 z] 2)).trans (below_drewn' _ _ 1))).below hb3).os ((((OI.lit wr w.heap.size 2 [z] hw2.size (by simp) (All64.one hiC)).drewN 1).below hb3)).os (by decide)) (fun i v hv => rowsApart HV.out hv hs2); have hap4 : ∀ b, blk A4 = some b → wo.heap.size ≤ b := (fun b hb => by (rcases hn4 with h1 | h1 <;> rw [h1] at hb <;> simp [blk] at hb <;> simp at hz3 <;> omega)); refine list_onlyK ?_)
              | (refine step_of_list (by rfl) ?_; refine app_ints _ (by rfl) _ _ (by rfl) w.heap.size (some ⟨w3.heap.size, 0, none⟩) 1 1 [z] (by rfl) (OI.lit w3 w.heap.size 2 [z] hw3.size (by simp) (All64.one hiC)) A3 n3 c3 (srt ar) (by rfl) (ho3.reads.keep (below_alloc w3 _)) (by have h1 := ho3.len; have h2 := hl.len; rw [srt_len] at h1; omega) (by have := hw3.size; simp; omega) ?_; intro A4 c4 w4 ho4 hg4 hn4; have hw4 : Below w.heap.size w w4 := below_own (hw3.alloc hw3.size _) hg4 (by have := hw3.size; simp; omega) (fun b hb => by simp [blk] at hb; have := hw3.size; omega); have hz3 : wr.heap.size ≤ w3.heap.size := hb3.size; have hov4 := (((hov.below (below_drewn' _ _ 1)).below hb3).below (below_alloc w3 _)).kept hg4 (OS.typed (((hov.below (below_drewn' _ _ 1)).below hb3).below (below_alloc w3 _)).os (OI.lit w3 w.heap.size 2 [z] hw3.size (by simp) (All64.one hiC)).os (by decide)) (fun i v hv => rowsApart HV.out hv (Nat.le_trans hs2 hz3)); have hap4 : ∀ b, blk A4 = some b → wo.heap.size ≤ b := (fun b hb => by (rcases hn4 with h1 | h1 <;> rw [h1] at hb <;> simp [blk] at hb <;> omega)); refine list_onlyK ?_)
              | (refine step_of_list (by rfl) ?_; refine app_row _ (by rfl) _ _ (by rfl) w.heap.size A' k c' vs _ (by rfl) hov4 (A4, 1 + n3, c4) ([z] ++ srt ar) ho4 (fun i v hv => rowsApart' HV.out hap4 hv) _ (by rfl) (by simp) (by omega) hw4.size ?_; intro A5 c5 w5 ho5 hg5 hn5; have hw5 : Below w.heap.size w w5 := below_own hw4 hg5 hw4.size (fun b hb => (hov4.os.lt hb).1); refine list_onlyK ?_))
          all_goals (
            have HZ := Lib.hid ho5
            clear ho5 hov4 ho4 hg4 hn4 hg5 hn5 ho3 hb3 hov hl hrl hcC2 hcL2
            go_wp2
            go_roundw
            case rel => exact ⟨k + 1, _, _, _, by omega, by go_num, rfl, by rw [HT.out, HK.out]; exact HZ.out, hw5⟩
            case measure => simp [intOf]; omega)
    · obtain rfl : k = n := by omega
      have hro : RR wr A' k (keysP near cells) := by
        have := OR.reads ⟨vs, ho⟩
        rwa [show keysTo near cells k = keysP near cells by rw [← keysTo_all, hlc.out]] at this
      have hcp := ho.os.cap
      have hW := Lib.hid hw
      have hsz := hw.size
      clear ho hk hlt
      go_wp2
      obtain ⟨wo, rfl⟩ : ∃ wo : World, wo = wr := ⟨_, rfl⟩
      have hk0 : RR (wo.alloc (.cells #[] 24)) (some ⟨wo.heap.size, 0, none⟩) 0 [] := RS.nil_ _ _ _
      have hb0 := below_alloc wo (.cells #[] 24)
      go_loopw [10, 11] (fun v i w2 => ∃ (j m : Nat) (K : Option Addr) (c2 : Nat), j ≤ k ∧ i = .int .i64 j ∧ v = .slice K m c2 ∧ RR w2 K m (setG cmpL ((keysP near cells).take j)) ∧ Below wo.heap.size wo w2) (fun _ i _ => k - (intOf i).toNat)
      case atStart => exact ⟨0, 0, _, _, Nat.zero_le _, rfl, rfl, hk0, hb0⟩
      case round =>
        clear hk0 hb0
        obtain ⟨j, m, K, c2, hj, rfl, rfl, hK, hb⟩ := hrel
        have hm : m ≤ j := by
          have h1 := hK.len
          have h2 := setG_len (c := cmpL) ((keysP near cells).take j)
          rw [List.length_take] at h2
          omega
        by_cases hjl : j < k
        · obtain ⟨aK, Y, p1, q1, rfl, hcK, hp1, hq1, hri⟩ := (hro.keep hb).get hjl
          have HS := Lib.hid (show setG cmpL ((keysP near cells).take (j + 1)) = putG cmpL (setG cmpL ((keysP near cells).take j)) (row (keysP near cells) j) by
            rw [List.take_succ_eq_append_getElem (by rw [keysP_len, hlc.out]; exact hjl), setG_snoc, row_get])
          generalize row (keysP near cells) j = key at *
          go_wp2_with fail
          refine (l21PutList_any K m c2 _ Y p1 q1 key _ hK (by omega) hri hp1 hq1).mono ?_
          rintro e w3 ⟨K3, m3, c3, rfl, hK3, hb3⟩
          have hbb := below_then hb hb3
          clear hK hb hb3 hcK
          go_wp2
          go_roundw
          case rel => exact ⟨j + 1, _, _, _, by omega, by go_num, rfl, by rw [HS.out]; exact hK3, hbb⟩
          case measure => simp [intOf]; omega
        · obtain rfl : j = k := by omega
          have HK := Lib.hid (show setG cmpL ((keysP near cells).take j) = kindsP near cells by rw [List.take_of_length_le (by rw [keysP_len, hlc.out]; exact Nat.le_refl _)]; rfl)
          rw [HK.out] at hK
          have HW := Lib.hid hb
          have hml := Lib.hid hK.len
          have hl0 := OI.lit wr wr.heap.size 2 [] (Nat.le_refl _) (by simp) All64.nil_
          have hb0 := below_alloc wr (.cells #[] 2)
          clear hb hj hjl
          go_wp2
          obtain ⟨wq, rfl⟩ : ∃ wq : World, wq = wr := ⟨_, rfl⟩
          go_loopw [12, 13] (fun v i w2 => ∃ (u : Nat) (A2 : Option Addr) (c3 : Nat), u ≤ j ∧ i = .int .i64 u ∧ v = .slice A2 u c3 ∧ OI w2 wq.heap.size 2 A2 u c3 ((roundP near cells).take u) ∧ Below wq.heap.size wq w2) (fun _ i _ => j - (intOf i).toNat)
          case atStart => exact ⟨0, _, _, Nat.zero_le _, rfl, rfl, by rw [List.take_zero]; exact hl0, hb0⟩
          case round =>
            clear hl0 hb0
            obtain ⟨u, A2, c3, hu, rfl, rfl, hl, hb⟩ := hrel
            by_cases hul : u < j
            · have hkr := keysP_row (near := near) (cells := cells) (v := u) (by rw [hlc.out]; exact hul)
              have hkm := kindsP_mem (near := near) (cells := cells) (v := u) (by rw [hlc.out]; exact hul)
              obtain ⟨hi1, hi2⟩ := idxG_mem cmpL_ord kindsP_strict hkm
              have HEQ := Lib.hid (fun v (hv : v < m) => kinds_eq (near := near) hi2 (by rw [hml.out]; exact hv) : ∀ v, v < m → (cmpL (row (kindsP near cells) v) (keyP near cells u) = 0 ↔ v = idxG cmpL (kindsP near cells) (keyP near cells u)))
              have HN := Lib.hid (show (roundP near cells).take (u + 1) = (roundP near cells).take u ++ [(idxG cmpL (kindsP near cells) (keyP near cells u) : Int)] by
                rw [List.take_succ_eq_append_getElem (by rw [roundP_len, hlc.out]; exact hul), ← nth_get, roundP_nth (by rw [hlc.out]; exact hul)])
              obtain ⟨aK, Y, p1, q1, e1, hcK1, hp1, hq1, hri1⟩ := (hro.keep HW.out).get hul
              rw [hkr] at hri1
              clear hkr hkm hi2
              generalize keyP near cells u = key at *
              rw [hml.out] at hi1
              generalize hix : idxG cmpL (kindsP near cells) key = ix at *
              clear hix
              subst e1
              have hcK0 := Lib.hid hcK1
              have hri0 := Lib.hid hri1
              clear hcK1 hri1
              have hcK := below_cell hb hcK0.out
              go_wp2
              obtain ⟨wz, rfl⟩ : ∃ wz : World, wz = wr := ⟨_, rfl⟩
              go_loopw [12, 14] (fun v i w4 => ∃ (t m2 : Nat) (A4 : Option Addr) (c4 : Nat), t ≤ m ∧ i = .int .i64 t ∧ v = .slice A4 m2 c4 ∧ OI w4 wq.heap.size 2 A4 m2 c4 ((roundP near cells).take u ++ if ix < t then [(ix : Int)] else []) ∧ Below wq.heap.size wq w4) (fun _ i _ => m - (intOf i).toNat)
              case atStart => exact ⟨0, _, _, _, Nat.zero_le _, rfl, rfl, by rw [if_neg (by omega), List.append_nil]; exact hl, hb⟩
              case round =>
                clear hl hcK hb
                obtain ⟨t, m2, A4, c4, ht, rfl, rfl, hl, hb4⟩ := hrel
                have hm2 : m2 ≤ u + 1 := by
                  have h1 := hl.len
                  rw [List.length_append, List.length_take] at h1
                  split at h1 <;> simp at h1 <;> omega
                have hsz4 : wq.heap.size ≤ wr.heap.size := hb4.size
                have hcK := below_cell hb4 hcK0.out
                have hri := hri0.out.keep hb4
                by_cases htm : t < m
                · obtain ⟨aZ, Z, p2, q2, rfl, hcZ, hp2, hq2, hrz⟩ := (hK.keep hb4).get htm
                  have hE := HEQ.out t htm
                  have hcmp := fun q => compareLists_any Z Y p2 p1 q2 q1 (row (kindsP near cells) t) key (wr.drewN q) (hrz.drewN q) (hri.drewN q) (by omega) (by omega)
                  generalize cmpL (row (kindsP near cells) t) key = s at *
                  have hY := below_cell hb4 hcK0.out
                  by_cases hti : t = ix
                  · have hs0 : s = 0 := hE.2 hti
                    subst hs0
                    have HL := Lib.hid (show (roundP near cells).take u ++ (if ix < t + 1 then [(ix : Int)] else []) = ((roundP near cells).take u ++ if ix < t then [(ix : Int)] else []) ++ [(t : Int)] by
                      rw [if_pos (by omega), if_neg (by omega), List.append_nil, hti])
                    have hl1 := fun q => hl.drewN q
                    have HL1 := Lib.hid hl1
                    clear hE hti hl hl1
                    have hcmp' : ∀ q, Calls Tryz.prog 145 #[.slice Z p2 q2, .slice Y p1 q1] (wr.drewN q) (Quiet (wr.drewN q) (.int .i64 0)) := hcmp
                    go_wp2
                    go_quiet ((go_at_call 145; exact Quiet.call (hcmp' _)))
                    have hl2 := HL1.out nq
                    have hbq := hb4.trans (below_drewn' _ wr nq)
                    go_wp2_with (at_builtin; refine app_int _ rfl (.tmp 91) (.tmp 93) rfl wq.heap.size A4 m2 c4 _ rfl hl2 (t : Int) _ rfl (by simp) ⟨by omega, by omega⟩ (by omega) (by simp; exact hsz4) ?_; intro A5 c5 w5 ho5 hg5 hn5)
                    have hw5 : Below wq.heap.size wq w5 := below_own hbq hg5 (by simp; exact hsz4) (fun b hb => (hl2.os.lt hb).1)
                    clear hl2 hg5 hn5
                    go_roundw
                    case rel => exact ⟨t + 1, _, _, _, by omega, by go_num, rfl, by rw [HL.out]; exact ho5, hw5⟩
                    case measure => simp [intOf]; omega
                  · have hs0 : (s == 0) = false := by
                      have : s ≠ 0 := fun e => hti (hE.1 e)
                      simpa using this
                    have HL := Lib.hid (show (if ix < t + 1 then [(ix : Int)] else []) = (if ix < t then [(ix : Int)] else []) by
                      by_cases h : ix < t
                      · rw [if_pos h, if_pos (by omega)]
                      · rw [if_neg h, if_neg (by omega)])
                    have hl1 := fun q => hl.drewN q
                    have HL1 := Lib.hid hl1
                    clear hE hti hl hl1
                    have hcmp' : ∀ q, Calls Tryz.prog 145 #[.slice Z p2 q2, .slice Y p1 q1] (wr.drewN q) (Quiet (wr.drewN q) (.int .i64 s)) := hcmp
                    go_wp2
                    go_quiet ((go_at_call 145; exact Quiet.call (hcmp' _)))
                    have hl2 := HL1.out nq
                    have hbq := hb4.trans (below_drewn' _ wr nq)
                    go_wp2
                    go_roundw
                    case rel => exact ⟨t + 1, _, _, _, by omega, by go_num, rfl, by rw [HL.out]; exact hl2, hbq⟩
                    case measure => simp [intOf]; omega
                · obtain rfl : t = m := by omega
                  rw [if_pos hi1, ← HN.out] at hl
                  obtain rfl : m2 = u + 1 := by have h1 := hl.len; rw [List.length_take, roundP_len, hlc.out] at h1; omega
                  have hbb := hb4
                  clear hK
                  go_wp2
                  go_roundw
                  case rel => exact ⟨u + 1, _, _, by omega, by go_num, rfl, hl, hbb⟩
                  case measure => simp [intOf]; omega
            · obtain rfl : u = j := by omega
              have HR := Lib.hid (show (roundP near cells).take u = roundP near cells by rw [List.take_of_length_le (by rw [roundP_len, hlc.out]; exact Nat.le_refl _)])
              rw [HR.out] at hl
              have hend := hW.out.trans ((HW.out.trans (hb.mono HW.out.size)).mono hsz)
              go_wp2
              go_ret
              exact ⟨_, _, _, rfl, hl.more (Nat.le_trans hsz HW.out.size), hend⟩
end Go.Proofs.YtkihflnenifcgaaGreatDoor
