/- A drawn graph and a budget. No condition beyond those stated. -/
import Derived.Test.YtpckplpkedhlcaaGreatIM
import Derived.Test.YtpckplpkedhlcaaGreatIL
import Derived.Test.YtpckplpkedhlcaaGreatIJ
import Derived.Test.YtpckplpkedhlcaaGreatIK
import Derived.Test.YtpckplpkedhlcaaGreatGY
import Derived.Deep.RegionHeldLaw
set_option linter.unusedVariables false
set_option linter.unusedSimpArgs false
namespace Go.Proofs.YtpckplpkedhlcaaGreat
open Go.RowKit

theorem Below.far {B : Nat} {a w w' : World} {g : Nat} (h : Below B a w) (hg : w.grownBy w' (some g)) (hB : B ≤ w.heap.size) (hr : B ≤ g) : Below B a w' := h.grown hg hB (fun k e => by injection e with e; omega)
theorem OI.apartG {w w' : World} {B g : Nat} {e : TypeId} {A : Option Addr} {n c : Nat} {zs : List Int} (h : OI w B e A n c zs) (hg : g < B) (hr : w.grownBy w' (some g)) : OI w' B e A n c zs :=
  h.kept hr (by
    cases hA : blk A with
    | none => exact .inl rfl
    | some k => exact .inr fun e => by injection e with e; have := (h.os.lt hA).1; omega)
theorem OE.apartG {w w' : World} {B g : Nat} {e : TypeId} {A : Option Addr} {n c : Nat} {zs : List Ed} (h : OE w B e A n c zs) (hg : g < B) (hr : w.grownBy w' (some g)) : OE w' B e A n c zs :=
  h.kept hr (by
    cases hA : blk A with
    | none => exact .inl rfl
    | some k => exact .inr fun e => by injection e with e; have := (h.os.lt hA).1; omega)
/-- a graph that reads as said, and a number -/
def RetOne (w : World) (e : Ending) (w' : World) : Prop := ∃ A n c F m d cs es b, e = .returned (.tuple #[.agg #[.slice A n c, .slice F m d], .int .i64 b]) ∧ RG w' A n F m cs es ∧ I64 b ∧ Below w.heap.size w w' ∧ n ≤ 65 ∧ m ≤ 4097
set_option maxRecDepth 100000 in
set_option maxHeartbeats 800000 in
theorem drawAuts_any (A0 : Option Addr) (n0 c0 : Nat) (bs : List Int) (w : World) (ha : RS EByte w A0 n0 bs) (hn : n0 ≤ 9223372036854775807) :
    Calls Tryz.prog 8 #[.slice A0 n0 c0] w (RetOne w) := by
  have hb1 := below_alloc w (.cells #[.slice none 0 0, .slice none 0 0] 27)
  have R1 := Blk.new w 27 #[.slice none 0 0, .slice none 0 0]
  have hfr := l00From_any A0 n0 c0 bs _ (EBytes.keep ha hb1) hn
  have hg0 : w.heap.size + 1 ≤ (w.alloc (.cells #[.slice none 0 0, .slice none 0 0] 27)).heap.size := by simp
  go_enter Tryz.func8, Tryz.ntmps8
  go_wp2_with fail
  generalize w.alloc (.cells #[.slice none 0 0, .slice none 0 0] 27) = w1 at *
  refine hfr.mono ?_
  rintro e w2 ⟨rfl, hs2, hb2⟩
  have R1 := R1.after hb2
  have hw2 := hb1.trans (hb2.mono hb1.size)
  generalize w1.heap.size = g at *
  clear hfr hb1 hb2
  have hgl := hs2.lt
  go_wp2_with fail
  refine (l22DrawGraph_any g 0 w2 hs2 (by omega)).mono ?_
  rintro e w3 ⟨A, n, c, F, m, d, cs, es, q3, rfl, oa, of_, S3, hq3, hn, hm⟩
  have R1 := R1.grown S3.grown (fun e => by injection e with e; omega)
  have hw3 := Below.far hw2 S3.grown hw2.size (by omega)
  have S5 := S3.step (below_alloc w3 (.cells #[.slice A n c, .slice F m d] 27))
  have hb5 := below_alloc w3 (.cells #[.slice A n c, .slice F m d] 27)
  have X := Blk.new w3 27 #[.slice A n c, .slice F m d]
  have hlx := S3.size
  clear S3
  go_wp2
  generalize w3.alloc (.cells #[.slice A n c, .slice F m d] 27) = w5 at *
  have R1 := (R1.after hb5).after (below_drewn w5 1)
  have hw5 := hw3.trans (hb5.mono hw3.size)
  have hw5 := hw5.trans ((below_drewn w5 1).mono hw5.size)
  have oa := (oa.below hb5).below (below_drewn w5 1)
  have of_ := (of_.below hb5).below (below_drewn w5 1)
  have S6 := S5.step (below_drewn w5 1)
  have X := X.after (below_drewn w5 1)
  clear hb5 S5
  generalize w3.heap.size = x at *
  simp only [← World.drew_is_drewN] at *
  refine wp_region_held_drew (S := fun w' => w'.cell? ⟨x, 0, none⟩ = some (.slice A n c) ∧ w'.cell? ⟨x, 1, none⟩ = some (.slice F m d)) (by kernel_rfl) X.cells2 ?_
  intro hS
  refine wpAnyH_take (i := 0) (v := ?_) rfl (by kernel_rfl) (by kernel_rfl) (by kernel_rfl) (fun _ _ _ h => h) (Or.inl ⟨by rfl, ?_⟩) (by assumption) ?_
  rotate_left
  · (intro w hSw; (try dsimp only at hSw); go_simp; (try with_reducible rfl))
  simp only [Act.put, List.setIfInBounds_toArray, List.set_cons_zero, List.set_cons_succ]
  refine wpAnyH_take (i := 1) (v := ?_) rfl (by kernel_rfl) (by kernel_rfl) (by kernel_rfl) (fun _ _ _ h => h) (Or.inl ⟨by rfl, ?_⟩) (by assumption) ?_
  rotate_left
  · (intro w hSw; (try dsimp only at hSw); go_simp; (try with_reducible rfl))
  simp only [Act.put, List.setIfInBounds_toArray, List.set_cons_zero, List.set_cons_succ]
  have hdb := l22DrawBudget_any g q3 _ S6.src (by omega)
  generalize w5.drew = W at *
  refine wpAnyH_ready (rs := [2]) (by kernel_rfl) (by simp) ?_
  refine AllReadyH.cons rfl (fun K hK => ?_) AllReadyH.nil
  go_simp
  refine hdb.mono ?_
  rintro e w7 ⟨b, q7, rfl, hb, S7⟩
  dsimp only
  have R1 := R1.grown S7.grown (fun e => by injection e with e; omega)
  have X := X.grown S7.grown (fun e => by injection e with e; omega)
  have hw7 := Below.far hw5 S7.grown hw5.size (by omega)
  refine hK.out _ _ X.cells2 (fun hS1 => ?_)
  clear hK K hS
  obtain ⟨r0, r1⟩ := R1.cells2
  have f0 := R1.frozen 0
  have f1 := R1.frozen 1
  refine wpAnyH_ready (rs := [3]) (by kernel_rfl) (by simp) ?_
  refine AllReadyH.cons rfl (fun K hK => ?_) AllReadyH.nil
  go_simp
  have hgx : w.heap.size + 1 ≤ x := by omega
  have X := (X.far (p := ⟨w.heap.size, 0, none⟩) (by show x ≠ w.heap.size; omega) (.slice A n c)).far (p := ⟨w.heap.size, 1, none⟩) (by show x ≠ w.heap.size; omega) (.slice F m d)
  refine hK.out _ _ X.cells2 (fun hS2 => ?_)
  clear hK K hS1
  have R1b := (R1.set_ 0 (.slice A n c)).set_ 1 (.slice F m d)
  clear r0 r1 f0 f1
  refine wpAnyH_ready (rs := [4]) (by kernel_rfl) (by simp) ?_
  refine AllReadyH.cons rfl (fun K hK => ?_) AllReadyH.nil
  go_simp
  refine hK.out _ _ X.cells2 (fun hS4 => ?_)
  clear hK K hS2
  refine wpAnyH_done (by kernel_rfl) ?_ _
  go_wp2
  obtain ⟨r0, r1⟩ := R1b.cells2
  have hlow : w.heap.size < w2.heap.size := by omega
  have oa := ((oa.apartG hgl S7.grown).setLow (p := ⟨w.heap.size, 0, none⟩) hlow (.slice A n c)).setLow (p := ⟨w.heap.size, 1, none⟩) hlow (.slice F m d)
  have of_ := ((of_.apartG hgl S7.grown).setLow (p := ⟨w.heap.size, 0, none⟩) hlow (.slice A n c)).setLow (p := ⟨w.heap.size, 1, none⟩) hlow (.slice F m d)
  have hw8 := (hw7.setCell (p := ⟨w.heap.size, 0, none⟩) (Nat.le_refl _) (.slice A n c)).setCell (p := ⟨w.heap.size, 1, none⟩) (Nat.le_refl _) (.slice F m d)
  exact bodyPost_ret (v := .tuple #[.agg #[.slice A n c, .slice F m d], .int .i64 b]) (by simp [results, Tryz.results8, go_sem, r0, r1]) rfl ⟨A, n, c, F, m, d, cs, es, b, rfl, ⟨oa.reads, of_.reads⟩, hb, hw8, hn, hm⟩
end Go.Proofs.YtpckplpkedhlcaaGreat
/- What the drawn laws share: lists compared, lists looked for, permutations chosen by bytes. No condition beyond those stated. -/
namespace Go.Proofs.YtpckplpkedhlcaaGreat
open Go.RowKit

set_option maxHeartbeats 400000 in
theorem b10Nums_any (A B : Option Addr) (n m c d : Nat) (xs ys : List Int) (w : World) (ha : RI w A n xs) (hb : RI w B m ys) (hn : n ≤ 9223372036854775807) (hm : m ≤ 9223372036854775807) :
    Calls Tryz.prog 58 #[.slice A n c, .slice B m d] w (Quiet w (.bool (decide (xs = ys)))) := by
  have hla := Lib.hid ha.len
  have hlb := Lib.hid hb.len
  by_cases h : n = m
  · subst h
    go_enter Tryz.func58, Tryz.ntmps58
    go_wp2
    go_loopw [5] (fun i wr => ∃ k : Nat, k ≤ n ∧ i = .int .i64 k ∧ Drawn w wr ∧ upTo xs ys k) (fun i _ => n - (intOf i).toNat)
    case atStart => exact ⟨0, Nat.zero_le _, rfl, Drawn.refl _, fun _ h => absurd h (by omega)⟩
    case round =>
      obtain ⟨k, hk, rfl, hd, hu⟩ := hrel
      by_cases hlt : k < n
      · obtain ⟨a, rfl, hca, hia⟩ := (ha.drawn hd).get hlt
        obtain ⟨b, rfl, hcb, hib⟩ := (hb.drawn hd).get hlt
        by_cases he : nth xs k = nth ys k
        · have he' : (nth xs k != nth ys k) = false := by simp [he]
          have H := Lib.hid (upTo_step hu he); clear hu he
          go_wp2
          go_quiet (fail)
          go_wp2
          go_roundw
          case rel => exact ⟨k + 1, by omega, by go_num, hd.more _, H.out⟩
          case measure => simp [intOf]; omega
        · have he' : (nth xs k != nth ys k) = true := by simp [he]
          have H := Lib.hid (show decide (xs = ys) = false by simp; rintro rfl; exact he rfl)
          clear he hu
          go_wp2
          go_quiet (fail)
          go_wp2
          go_ret
          exact ⟨by rw [H.out]; rfl, hd.more _⟩
      · have H := Lib.hid (show decide (xs = ys) = true by simp; exact upTo_all (by rw [hla.out, hlb.out]) (fun j hj => hu j (by have := hla.out; omega)))
        clear hu
        go_wp2
        go_ret
        exact ⟨by rw [H.out]; rfl, hd⟩
  · have h' : ((n : Int) != (m : Int)) = true := by simp; omega
    have H := Lib.hid (show decide (xs = ys) = false by simp; rintro rfl; exact h (hla.out.symm.trans hlb.out))
    clear h
    go_enter Tryz.func58, Tryz.ntmps58
    go_wp2
    go_ret
    exact ⟨by rw [H.out]; rfl, Drawn.refl _⟩
set_option maxHeartbeats 400000 in
theorem b10Lists_any (A B : Option Addr) (n m c d : Nat) (xs ys : List (List Int)) (w : World) (ha : RR w A n xs) (hb : RR w B m ys) (hn : n ≤ 9223372036854775807) (hm : m ≤ 9223372036854775807) :
    Calls Tryz.prog 17 #[.slice A n c, .slice B m d] w (Quiet w (.bool (decide (xs = ys)))) := by
  have hla := Lib.hid ha.len
  have hlb := Lib.hid hb.len
  by_cases h : n = m
  · subst h
    go_enter Tryz.func17, Tryz.ntmps17
    go_wp2
    go_loopw [5] (fun i wr => ∃ k : Nat, k ≤ n ∧ i = .int .i64 k ∧ Drawn w wr ∧ upToR xs ys k) (fun i _ => n - (intOf i).toNat)
    case atStart => exact ⟨0, Nat.zero_le _, rfl, Drawn.refl _, fun _ h => absurd h (by omega)⟩
    case round =>
      obtain ⟨k, hk, rfl, hd, hu⟩ := hrel
      by_cases hlt : k < n
      · obtain ⟨a, A1, n1, c1, rfl, hca, hn1, hc1, ha1⟩ := (ha.drawn hd).get hlt
        obtain ⟨b, B1, m1, d1, rfl, hcb, hm1, hd1, hb1⟩ := (hb.drawn hd).get hlt
        by_cases he : row xs k = row ys k
        · have he' : decide (row xs k = row ys k) = true := by simp [he]
          have H := Lib.hid (upToR_step hu he); clear hu he
          go_wp2
          go_quiet ((go_at_call 58; exact Quiet.call (b10Nums_any A1 B1 n1 m1 c1 d1 (row xs k) (row ys k) _ (ha1.drewN _) (hb1.drewN _) (by omega) (by omega))))
          go_wp2
          go_roundw
          case rel => exact ⟨k + 1, by omega, by go_num, hd.more _, H.out⟩
          case measure => simp [intOf]; omega
        · have he' : decide (row xs k = row ys k) = false := by simp [he]
          have H := Lib.hid (show decide (xs = ys) = false by simp; rintro rfl; exact he rfl)
          clear he hu
          go_wp2
          go_quiet ((go_at_call 58; exact Quiet.call (b10Nums_any A1 B1 n1 m1 c1 d1 (row xs k) (row ys k) _ (ha1.drewN _) (hb1.drewN _) (by omega) (by omega))))
          go_wp2
          go_ret
          exact ⟨by rw [H.out]; rfl, hd.more _⟩
      · have H := Lib.hid (show decide (xs = ys) = true by simp; exact upToR_all (by rw [hla.out, hlb.out]) (fun j hj => hu j (by have := hla.out; omega)))
        clear hu
        go_wp2
        go_ret
        exact ⟨by rw [H.out]; rfl, hd⟩
  · have h' : ((n : Int) != (m : Int)) = true := by simp; omega
    have H := Lib.hid (show decide (xs = ys) = false by simp; rintro rfl; exact h (hla.out.symm.trans hlb.out))
    clear h
    go_enter Tryz.func17, Tryz.ntmps17
    go_wp2
    go_ret
    exact ⟨by rw [H.out]; rfl, Drawn.refl _⟩
/-- where a list first stands among lists, or -1 -/
def firstL : List (List Int) → List Int → Int
  | [], _ => -1
  | y :: ys, x => if y = x then 0 else if firstL ys x < 0 then -1 else firstL ys x + 1
theorem firstL_neg : ∀ (L : List (List Int)) (x : List Int), firstL L x < 0 ↔ x ∉ L
  | [], x => by simp [firstL]
  | y :: ys, x => by
    have ih := firstL_neg ys x
    unfold firstL
    by_cases h : y = x
    · rw [if_pos h]; simp [h]
    · rw [if_neg h]
      by_cases k : firstL ys x < 0
      · rw [if_pos k]; have := ih.1 k; simp [this, Ne.symm h]
      · rw [if_neg k]
        have : x ∈ ys := by
          by_cases m : x ∈ ys
          · exact m
          · exact absurd (ih.2 m) k
        simp [this]; omega
set_option maxHeartbeats 800000 in
theorem b10Index_any (A : Option Addr) (n c : Nat) (L : List (List Int)) (B : Option Addr) (m d : Nat) (x : List Int) (w : World) (ha : RR w A n L) (hb : RI w B m x) (hn : n ≤ 9223372036854775807) (hm : m ≤ 9223372036854775807) :
    Calls Tryz.prog 15 #[.slice A n c, .slice B m d] w (fun e w' => ∃ k : Int, e = .returned (.int .i64 k) ∧ Drawn w w' ∧ ((0 ≤ k ∧ x ∈ L) ∨ (k = -1 ∧ x ∉ L))) := by
  have hla := Lib.hid ha.len
  go_enter Tryz.func15, Tryz.ntmps15
  go_wp2
  go_loopw [5] (fun i wr => ∃ k : Nat, k ≤ n ∧ i = .int .i64 k ∧ Drawn w wr ∧ ∀ j, j < k → row L j ≠ x) (fun i _ => n - (intOf i).toNat)
  case atStart => exact ⟨0, Nat.zero_le _, rfl, Drawn.refl _, fun _ h => by omega⟩
  case round =>
    obtain ⟨k, hk, rfl, hd, hno⟩ := hrel
    have HN := Lib.hid hno
    clear hno
    by_cases hlt : k < n
    · obtain ⟨ad, A1, n1, c1, rfl, hc, hn1, hc1, ha1⟩ := (ha.drawn hd).get hlt
      have hcall := b10Nums_any A1 B n1 m c1 d (row L k) x wr ha1 (hb.drawn hd) (by omega) hm
      have HK := Lib.hid (show k < L.length by rw [hla.out]; exact hlt)
      by_cases he : row L k = x
      · rw [show decide (row L k = x) = true by simp [he]] at hcall
        have HM := Lib.hid (show x ∈ L by rw [← he, row_get HK.out]; exact List.getElem_mem HK.out)
        clear he
        go_wp2_with fail
        refine hcall.mono ?_
        rintro e w2 ⟨rfl, hd2⟩
        go_wp2
        go_ret
        exact ⟨(k : Int), rfl, hd.trans hd2, .inl ⟨by omega, HM.out⟩⟩
      · rw [show decide (row L k = x) = false by simp [he]] at hcall
        have HY := Lib.hid (fun (j : Nat) (hj : j < k + 1) => show row L j ≠ x from by
          by_cases e : j = k
          · rw [e]; exact he
          · exact HN.out j (by omega))
        clear he
        go_wp2_with fail
        refine hcall.mono ?_
        rintro e w2 ⟨rfl, hd2⟩
        go_wp2
        go_roundw
        case rel => exact ⟨k + 1, by omega, by go_num, hd.trans hd2, HY.out⟩
        case measure => simp [intOf]; omega
    · go_wp2
      go_ret
      refine ⟨-1, rfl, hd, .inr ⟨rfl, fun hm => ?_⟩⟩
      obtain ⟨j, hj, e⟩ := List.mem_iff_getElem.1 hm
      exact HN.out j (by have := hla.out; omega) (by rw [row_get hj]; exact e)
/-- a call that makes a permutation -/
def RetPm (w : World) (n : Nat) (e : Ending) (w' : World) : Prop := ∃ A c zs, e = .returned (.slice A n c) ∧ OI w' w.heap.size 2 A n c zs ∧ zs.length = n ∧ Perm zs ∧ Below w.heap.size w w'
theorem iota_takeB {n k : Nat} (h : k < n) : (iotaP n).take k ++ [(k : Int)] = (iotaP n).take (k + 1) := by
  rw [List.take_succ_eq_append_getElem (by rw [iotaP_len]; exact h), ← nth_get (by rw [iotaP_len]; exact h), iotaP_nth h]
set_option maxRecDepth 100000 in
set_option maxHeartbeats 800000 in
theorem b10Perm_any (A0 : Option Addr) (n0 c0 n : Nat) (bs : List Int) (w : World) (ha : RS EByte w A0 n0 bs) (hn0 : n0 ≤ 9223372036854775807) (hn : n ≤ 1000) :
    Calls Tryz.prog 14 #[.slice A0 n0 c0, .int .i64 n] w (RetPm w n) := by
  go_enter Tryz.func14, Tryz.ntmps14
  go_wp2
  have hb1 := below_alloc w (.cells #[] 2)
  have ho0 : OI (w.alloc (.cells #[] 2)) w.heap.size 2 (some ⟨w.heap.size, 0, none⟩) 0 0 ((iotaP n).take 0) := by simpa [ints] using OI.lit w w.heap.size 2 [] (Nat.le_refl _) (by simp) (by simp [All64])
  go_loopw [5, 6] (fun l i wr => ∃ (k : Nat) (A' : Option Addr) (c' : Nat), k ≤ n ∧ i = .int .i64 k ∧ l = .slice A' k c' ∧ OI wr w.heap.size 2 A' k c' ((iotaP n).take k) ∧ Below w.heap.size w wr) (fun _ i _ => n - (intOf i).toNat)
  case atStart => exact ⟨0, _, 0, Nat.zero_le _, rfl, rfl, ho0, hb1⟩
  case round =>
    clear ho0 hb1
    obtain ⟨k, A', c', hk, rfl, rfl, ho, hw⟩ := hrel
    by_cases hlt : k < n
    · have HN := Lib.hid (iota_takeB hlt)
      have hki : I64 (k : Int) := by unfold I64; omega
      have hws := hw.size
      go_wp2_with (at_builtin; refine app_int _ rfl (.tmp 16) (.tmp 18) rfl w.heap.size A' k c' _ rfl ho (k : Int) wr.heap.size rfl rfl hki (by omega) hws ?_; intro A4 c4 w4 ho4 hg4 hf4; have hb4 := below_own hw hg4 hws (fun q hq => (ho.os.lt hq).1))
      rw [HN.out] at ho4
      go_roundw
      case rel => exact ⟨k + 1, A4, c4, by omega, by go_num, rfl, ho4, hb4⟩
      case measure => simp [intOf]; omega
    · obtain rfl : k = n := by omega
      rw [List.take_of_length_le (by rw [iotaP_len]; exact Nat.le_refl _)] at ho
      have HI : (iotaP k).length = k ∧ Perm (iotaP k) := ⟨iotaP_len _, iotaP_perm _⟩
      generalize iotaP k = zs at *
      go_wp2
      go_loopw [7] (fun i wr => ∃ (k2 : Int) (zs : List Int), -1 ≤ k2 ∧ k2 < k ∧ i = .int .i64 k2 ∧ OI wr w.heap.size 2 A' k c' zs ∧ (zs.length = k ∧ Perm zs) ∧ Below w.heap.size w wr) (fun i _ => (intOf i + 1).toNat)
      case atStart => exact ⟨(k : Int) - 1, zs, by omega, by omega, by go_num, ho, HI, hw⟩
      case round =>
        clear ho HI hw
        obtain ⟨k2, zs, h1, h2, rfl, ho, HI, hw⟩ := hrel
        by_cases hlt2 : 0 < k2
        · obtain ⟨i, rfl⟩ := Int.eq_ofNat_of_zero_le (show 0 ≤ k2 by omega)
          obtain ⟨x0, x1⟩ := atP_bd (zs := bs) (i := i) (k := (i : Int) + 1) (by omega)
          have hat := b10At_any A0 n0 c0 bs i ((i : Int) + 1) wr (EBytes.keep ha hw) (by omega) (by omega) hn0
          obtain ⟨y, hy⟩ := Int.eq_ofNat_of_zero_le x0
          rw [hy] at hat x1
          clear hy x0
          obtain ⟨ga, rfl, hci, hfi, hii⟩ := ho.cell (k := i) (by omega)
          obtain ⟨ga', hga, hcy, hfy, hiy⟩ := ho.cell (k := y) (by omega)
          cases hga
          have HP := perm_swap HI.1 HI.2 (i := i) (k := y) (by omega) (by omega)
          have ho3 := (ho.set i hiy).set y hii
          obtain ⟨ga', hga, hcy2, hfy2, -⟩ := (ho.set i hiy).cell (k := y) (by omega)
          cases hga
          generalize nth (zs.set i (nth zs y)) y = b2 at *
          have hlo := (ho.os.lt (k := ga) rfl).1
          have hw3 := (hw.setCell (p := ⟨ga, i, none⟩) hlo (.int .i64 (nth zs y))).setCell (p := ⟨ga, y, none⟩) hlo (.int .i64 (nth zs i))
          generalize nth zs i = a at *
          generalize nth zs y = b at *
          clear hw ho HI
          go_wp2_with fail
          refine hat.mono ?_
          rintro e w2 ⟨rfl, rfl⟩
          go_wp2
          go_roundw
          case rel => exact ⟨(i : Int) - 1, _, by omega, by omega, by go_num, ho3, HP, hw3⟩
          case measure => simp [intOf] <;> omega
        · go_wp2
          go_ret
          exact ⟨A', c', zs, rfl, ho, HI.1, HI.2, hw⟩
end Go.Proofs.YtpckplpkedhlcaaGreat
/- impl.IsAutomorphism at a permutation of a valid graph. No condition beyond those stated. -/
namespace Go.Proofs.YtpckplpkedhlcaaGreat
open Go.RowKit

set_option maxRecDepth 100000 in
set_option maxHeartbeats 800000 in
theorem isAutomorphism_any (A : Option Addr) (n c : Nat) (F : Option Addr) (m d : Nat) (cs : List Int) (es : List Ed) (P : Option Addr) (cP : Nat) (p : List Int) (w : World) (ha : RG w A n F m cs es) (hP : RI w P n p) (hp : Perm p) (hn : n ≤ 4096) (hm : m ≤ 1048576) (hg : GraphOk cs es) :
    Calls Tryz.prog 12 #[.agg #[.slice A n c, .slice F m d], .slice P n cP] w (RetB w (sameG (relC cs p) (relE es p) cs es)) := by
  have hb0 := below_alloc w (.cells #[.slice A n c, .slice F m d] 27)
  have X := Blk.new w 27 #[.slice A n c, .slice F m d]
  have hlp := Lib.hid hP.len
  have hla := Lib.hid ha.ri.len
  have hE := graph_edges hg
  rw [hla.out] at hE
  have HE := Lib.hid hE
  clear hE
  have hb1 := hb0.trans (below_drewn' w.heap.size _ 1)
  have X1 := X.after (below_drewn _ 1)
  have HV := validGraph_any A n c F m d cs es _ (ha.keep hb1) (by omega) (by omega)
  rw [show tB (GraphOk cs es) = true from tB_true.2 hg] at HV
  have HV := Lib.hid HV
  clear hg
  obtain ⟨x0, x1⟩ := X.cells2
  obtain ⟨y0, y1⟩ := X1.cells2
  have HX1 := Lib.hid X1
  clear X X1
  go_enter Tryz.func12, Tryz.ntmps12
  go_wp2
  go_region_held_law (fun w' => w'.cell? ⟨w.heap.size, 0, none⟩ = some (.slice A n c) ∧ w'.cell? ⟨w.heap.size, 1, none⟩ = some (.slice F m d))
    (first | exact HX1.out.cells2 | exact X2.cells2 | exact X4.cells2 | exact X5.cells2 | exact X6.cells2)
    ((first
      | (go_at_call 52; refine HV.out.mono ?_; rintro e w2 ⟨rfl, hb2⟩; have X2 := HX1.out.after hb2; have hw2 := hb1.trans (hb2.mono hb1.size))
      | (go_at_call 54; refine (sizeI_any A n c _ (by omega)).mono ?_; rintro e w3 ⟨rfl, rfl⟩)
      | (go_at_call 53; refine (isOrder_any P n cP n p _ (hP.keep hw2) (by omega) (by omega)).mono ?_; rw [show decide (srt p = iotaP n) = true from by simp [srt_iota hp hlp.out]]; rintro e w4 ⟨rfl, hb4⟩; have X4 := X2.after hb4; have hw4 := hw2.trans (hb4.mono hw2.size))
      | (go_at_call 56; refine (relabeledGraph_any A n c F m d cs es P n cP p _ (ha.keep hw4) (hP.keep hw4) rfl hp hn hm HE.out).mono ?_; rintro e w5 ⟨A2, n2, c2, F2, m2, d2, rfl, hog, hb5⟩; have X5 := X4.after hb5; have hw5 := hw4.trans (hb5.mono hw4.size); have hln : n2 ≤ 4096 := (by rw [← hog.oi.len, relC_len, hla.out]; exact hn); have hlm : m2 ≤ 1048576 := (by rw [← hog.oe.len]; exact Nat.le_trans (relE_len _ _) (by have := ha.re.len; omega)))
      | (go_at_call 55; refine (sameGraph_any A2 n2 c2 F2 m2 d2 _ _ A n c F m d cs es _ hog.reads (ha.keep hw5) (by omega) (by omega) (by omega) (by omega)).mono ?_; rintro e w6 ⟨rfl, hb6⟩; have X6 := X5.after hb6; have hw6 := hw5.trans (hb6.mono hw5.size))))
  all_goals
    go_wp2
    go_ret
    exact ⟨rfl, hw6⟩
end Go.Proofs.YtpckplpkedhlcaaGreat
