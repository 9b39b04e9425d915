/- Sums of elements of a field, on both sides. No condition beyond those stated. -/
import Derived.Test.YtcnjlkabdfcjdaaZAT
import Derived.Deep.RegionHeldLaw
set_option linter.unusedVariables false
set_option linter.unusedSimpArgs false
namespace Go.Proofs.Ytcnjlkabdfcjdaa
open Go.RowKit

/-- the first j places written over -/
def ovTo (F : Nat → Int) (l : List Int) (j : Nat) : List Int := (List.range j).map F ++ l.drop j
theorem ovTo_zero (F : Nat → Int) (l : List Int) : ovTo F l 0 = l := by simp [ovTo]
theorem ovTo_all (F : Nat → Int) (l : List Int) : ovTo F l l.length = (List.range l.length).map F := by simp [ovTo]
theorem ovTo_nth {F : Nat → Int} {l : List Int} {j : Nat} : nth (ovTo F l j) j = nth l j := by
  unfold ovTo nth
  simp [List.getD, List.getElem?_append]
theorem ovTo_step {F : Nat → Int} {l : List Int} {j : Nat} (h : j < l.length) : (ovTo F l j).set j (F j) = ovTo F l (j + 1) := by
  unfold ovTo
  rw [List.set_append_right _ _ (by simp), List.length_map, List.length_range, Nat.sub_self, List.drop_eq_getElem_cons h, List.set_cons_zero, List.range_succ, List.map_append, List.append_assoc]
  rfl
/-- a sum of digits as the program reckons it -/
theorem comb_step {x y s c p : Int} (hp : 2 ≤ p) (hp2 : p ≤ 64) (hx : 0 ≤ x) (hx2 : x < p) (hy : 0 ≤ y) (hy2 : y < p) (hs : (s = 1 ∧ c = 1) ∨ (s = -1 ∧ c = p - 1)) :
    IntKind.i64.wrap (s * y) = s * y ∧ IntKind.i64.wrap (x + s * y) = x + s * y ∧ IntKind.i64.wrap (x + s * y + p) = x + s * y + p ∧ (x + s * y + p).tmod p = (x + c * y) % p ∧ 0 ≤ (x + c * y) % p ∧ (x + c * y) % p < p ∧ ¬ p = 0 := by
  have hsy : -64 ≤ s * y ∧ s * y ≤ 64 ∧ 0 ≤ x + s * y + p := by
    rcases hs with ⟨rfl, -⟩ | ⟨rfl, -⟩
    · rw [Int.one_mul]; omega
    · rw [show (-1 : Int) * y = -y from by omega]; omega
  obtain ⟨h1, h2, h3⟩ := hsy
  refine ⟨IntWalk.i64_in _ (by omega), IntWalk.i64_in _ (by omega), IntWalk.i64_in _ (by omega), ?_, Int.emod_nonneg _ (by omega), Int.emod_lt_of_pos _ (by omega), by omega⟩
  rw [Int.tmod_eq_emod_of_nonneg h3]
  rcases hs with ⟨rfl, rfl⟩ | ⟨rfl, rfl⟩
  · exact Cg.iff.1 ⟨1, by rw [Int.mul_one]⟩
  · refine Cg.iff.1 ⟨1 - y, ?_⟩
    rw [Int.mul_sub, Int.sub_mul]; omega
/-- a sum of digits as the reference reckons it -/
theorem sum_step {x y c p : Int} (hp : 2 ≤ p) (hp2 : p ≤ 64) (hx : 0 ≤ x) (hx2 : x < p) (hy : 0 ≤ y) (hy2 : y < p) (hc : 0 ≤ c) (hc2 : c ≤ 64) :
    IntKind.i64.wrap (c * y) = c * y ∧ IntKind.i64.wrap (x + c * y) = x + c * y ∧ (x + c * y).tmod p = (x + c * y) % p ∧ 0 ≤ (x + c * y) % p ∧ (x + c * y) % p < p ∧ ¬ p = 0 := by
  obtain ⟨m1, m2⟩ := mul_bd (a := c) (b := y) (x := 64) (y := 64) hc hc2 hy (by omega)
  exact ⟨IntWalk.i64_in _ (by omega), IntWalk.i64_in _ (by omega), Int.tmod_eq_emod_of_nonneg (by omega), Int.emod_nonneg _ (by omega), Int.emod_lt_of_pos _ (by omega), by omega⟩
set_option maxRecDepth 100000 in
set_option maxHeartbeats 800000 in
theorem l03Sum_any (g : Nat) (p : Int) (k : Nat) (A : Option Addr) (n c : Nat) (f : List Int) (a b cc : Int) (w : World) (h : FAt w g p k A n c f) (hp : 2 ≤ p) (hp2 : p ≤ 61) (hq : p ^ k ≤ 64) (hk : k ≤ 6) (ha : 0 ≤ a ∧ a ≤ 64) (hb : 0 ≤ b ∧ b ≤ 64) (hc : 0 ≤ cc ∧ cc ≤ 64) :
    Calls Try.prog 107 #[.pointer (some ⟨g, 0, none⟩), .int .i64 a, .int .i64 b, .int .i64 cc] w (fun e w' => e = .returned (.int .i64 (sumP p k cc a b)) ∧ Below w.heap.size w w') := by
  obtain ⟨a0, a1⟩ := ha
  obtain ⟨b0, b1⟩ := hb
  obtain ⟨c0, c1⟩ := hc
  have HQ := Lib.hid hq
  have H := Lib.hid h
  have HF1 := Lib.hid (h.keep (below_drewn w 1))
  have x0 := h.c0
  have x1 := h.c1
  clear hq h
  go_enter Try.func107, Try.ntmps107
  go_wp2
  clear x0 x1
  go_region_held_law (fun w' => w'.cell? ⟨g, 0, none⟩ = some (.int .i64 p) ∧ w'.cell? ⟨g, 1, none⟩ = some (.int .i64 k))
    (first | exact ⟨HF1.out.c0, HF1.out.c1⟩ | exact ⟨HF2.out.c0, HF2.out.c1⟩)
    ((go_at_call 122; refine (l03Digits_any a p k _ a0 (by omega) hp (by omega) (by omega)).mono ?_; rintro e w2 ⟨A2, n2, c2, rfl, ho2, hb2⟩; have HF2 := Lib.hid (HF1.out.keep hb2)))
  have hw2 := (below_drewn w 1).trans (hb2.mono (Nat.le_refl _))
  have hzz : w.heap.size ≤ (w.drewN 1).heap.size := Nat.le_refl _
  obtain rfl : k = n2 := by rw [← ho2.len, digs_len]
  have HF3 := Lib.hid (HF2.out.keep (below_drewn w2 1))
  have x0 := HF2.out.c0
  have x1 := HF2.out.c1
  have ho2 := (ho2.below (below_drewn w2 1)).more hzz
  clear hb2
  go_wp2
  clear x0 x1
  go_region_held_law (fun w' => w'.cell? ⟨g, 0, none⟩ = some (.int .i64 p) ∧ w'.cell? ⟨g, 1, none⟩ = some (.int .i64 k))
    (first | exact ⟨HF3.out.c0, HF3.out.c1⟩ | exact ⟨HF4.out.c0, HF4.out.c1⟩)
    ((go_at_call 122; refine (l03Digits_any b p k _ b0 (by omega) hp (by omega) (by omega)).mono ?_; rintro e w3 ⟨A3, n3, c3, rfl, ho3, hb3⟩; have HF4 := Lib.hid (HF3.out.keep hb3)))
  have hw3 := (hw2.trans (below_drewn' _ w2 1)).trans (hb3.mono hw2.size)
  obtain rfl : k = n3 := by rw [← ho3.len, digs_len]
  have hap : blk A3 = none ∨ blk A3 ≠ blk A2 := by
    cases h3 : blk A3 with
    | none => exact .inl rfl
    | some g3 =>
      refine .inr fun e => ?_
      have h1 : w2.heap.size ≤ g3 := (ho3.os.lt h3).1
      have h2 : g3 < w2.heap.size := (ho2.os.lt e.symm).2
      omega
  have ho2 := ho2.below hb3
  have ho3 := ho3.more (show w.heap.size ≤ (w2.drewN 1).heap.size from hw2.size)
  have hD2 := digs_dg (p := p) (by omega) a k
  have hD3 := digs_dg (p := p) (by omega) b k
  have hl2 := digs_len a p k
  clear hw2 hb3 hzz HF1 HF2 HF3 HF4
  have HSum := Lib.hid (show sumP p k cc a b = numR ((List.range k).map fun i => (nth (digsP a p k) i + cc * nth (digsP b p k) i) % p) p from rfl)
  generalize digsP a p k = x at *
  generalize digsP b p k = y at *
  have HL2 := Lib.hid hl2
  clear hl2
  rw [← ovTo_zero (fun i => (nth x i + cc * nth y i) % p) x] at ho2
  go_wp2
  go_loopw [11] (fun i wr => ∃ j : Nat, j ≤ k ∧ i = .int .i64 j ∧ OI wr w.heap.size 2 A2 k c2 (ovTo (fun i => (nth x i + cc * nth y i) % p) x j) ∧ OI wr w.heap.size 2 A3 k c3 y ∧ Below w.heap.size w wr) (fun i _ => k - (intOf i).toNat)
  case atStart => exact ⟨0, Nat.zero_le _, rfl, ho2, ho3, hw3⟩
  case round =>
    clear ho2 ho3 hw3
    obtain ⟨j, hj, rfl, ho2, ho3, hw⟩ := hrel
    by_cases hlt : j < k
    · have hw0 := hw.trans (below_drewn' _ wr 1)
      have ho20 := ho2.below (below_drewn wr 1)
      have ho30 := ho3.below (below_drewn wr 1)
      have X0 := H.out.keep hw0
      obtain ⟨gA, rfl, ca, fa, ia⟩ := ho20.cell hlt
      obtain ⟨gB, rfl, cb, fb, ib⟩ := ho30.cell hlt
      rw [ovTo_nth] at ca ia
      obtain ⟨z0, z1⟩ := hD2 j
      obtain ⟨y0, y1⟩ := hD3 j
      obtain ⟨q1, q2, q4, q5, q6, q7⟩ := sum_step (x := nth x j) (y := nth y j) (c := cc) hp (by omega) z0 z1 y0 y1 c0 c1
      have HS := Lib.hid (show (ovTo (fun i => (nth x i + cc * nth y i) % p) x j).set j ((nth x j + cc * nth y j) % p) = ovTo (fun i => (nth x i + cc * nth y i) % p) x (j + 1) from ovTo_step (F := fun i => (nth x i + cc * nth y i) % p) (by rw [HL2.out]; exact hlt))
      have hgl := (ho20.os.lt (k := gA) rfl).1
      have hapg : gB ≠ gA := fun e => by
        rcases hap with h | h
        · cases h
        · exact h (by simp [blk, e])
      have o2 := ho20.set j (u := (nth x j + cc * nth y j) % p) ⟨by omega, by omega⟩
      have o3 := ho30.kept (grown_set (g := gA) (p := j) (u := .int .i64 ((nth x j + cc * nth y j) % p))) (.inr fun e => by simp [blk] at e; exact hapg e)
      have hwN := hw0.setCell (p := ⟨gA, j, none⟩) hgl (.int .i64 ((nth x j + cc * nth y j) % p))
      rw [HS.out] at o2
      have cp := X0.c0
      simp only [← World.drew_is_drewN] at ca fa cb cp o2 o3 hwN
      clear ho20 ho30 X0 hw0 ho2 ho3 hw HS hapg q5 q6 ia ib
      generalize nth x j = xx at *
      generalize nth y j = yy at *
      go_wp2
      refine region_last (P := Try.prog) (S := fun w' => w'.cell? ⟨gA, j, none⟩ = some (.int .i64 xx) ∧ w'.cell? ⟨gB, j, none⟩ = some (.int .i64 yy) ∧ w'.cell? ⟨g, 0, none⟩ = some (.int .i64 p)) (by kernel_rfl) (by simp only [List.getLast?_cons_cons, List.getLast?_singleton]; rfl) (by dsimp only [List.dropLast]) (by kernel_rfl) ⟨ca, cb, cp⟩ ?_
      intro hS
      refine wpAnyH_take (i := 0) (v := ?_) rfl (by kernel_rfl) (by kernel_rfl) (by kernel_rfl) (fun _ _ _ h => h) (Or.inl ⟨by rfl, ?_⟩) (by assumption) ?_
      rotate_left
      · (intro w hSw; (try dsimp only at hSw); go_simp; (try with_reducible rfl))
      simp only [Act.put, List.setIfInBounds_toArray, List.set_cons_zero, List.set_cons_succ]
      refine wpAnyH_take (i := 1) (v := ?_) rfl (by kernel_rfl) (by kernel_rfl) (by kernel_rfl) (fun _ _ _ h => h) (Or.inl ⟨by rfl, ?_⟩) (by assumption) ?_
      rotate_left
      · (intro w hSw; (try dsimp only at hSw); go_simp; (try with_reducible rfl))
      simp only [Act.put, List.setIfInBounds_toArray, List.set_cons_zero, List.set_cons_succ]
      refine wpAnyH_take (i := 2) (v := ?_) rfl (by kernel_rfl) (by kernel_rfl) (by kernel_rfl) (fun _ _ _ h => h) (Or.inl ⟨by rfl, ?_⟩) (by assumption) ?_
      rotate_left
      · (intro w hSw; (try dsimp only at hSw); go_simp; (try with_reducible rfl))
      simp only [Act.put, List.setIfInBounds_toArray, List.set_cons_zero, List.set_cons_succ]
      refine wpAnyH_take (i := 3) (v := ?_) rfl (by kernel_rfl) (by kernel_rfl) (by kernel_rfl) (fun _ _ _ h => h) (Or.inl ⟨by rfl, ?_⟩) (by assumption) ?_
      rotate_left
      · (intro w hSw; (try dsimp only at hSw); go_simp; (try with_reducible rfl))
      simp only [Act.put, List.setIfInBounds_toArray, List.set_cons_zero, List.set_cons_succ]
      refine wpAnyH_take (i := 4) (v := ?_) rfl (by kernel_rfl) (by kernel_rfl) (by kernel_rfl) (fun _ _ _ h => h) (Or.inl ⟨by rfl, ?_⟩) (by assumption) ?_
      rotate_left
      · (intro w hSw; (try dsimp only at hSw); go_simp; (try with_reducible rfl))
      simp only [Act.put, List.setIfInBounds_toArray, List.set_cons_zero, List.set_cons_succ]
      refine wpAnyH_take (i := 5) (v := ?_) rfl (by kernel_rfl) (by kernel_rfl) (by kernel_rfl) (fun _ _ _ h => h) (Or.inl ⟨by rfl, ?_⟩) (by assumption) ?_
      rotate_left
      · (intro w hSw; (try dsimp only at hSw); go_simp; (try with_reducible rfl))
      simp only [Act.put, List.setIfInBounds_toArray, List.set_cons_zero, List.set_cons_succ]
      refine wpAnyH_take (i := 6) (v := ?_) rfl (by kernel_rfl) (by kernel_rfl) (by kernel_rfl) (fun _ _ _ h => h) (Or.inl ⟨by rfl, ?_⟩) (by assumption) ?_
      rotate_left
      · (intro w hSw; (try dsimp only at hSw); go_simp; (try with_reducible rfl))
      simp only [Act.put, List.setIfInBounds_toArray, List.set_cons_zero, List.set_cons_succ]
      refine wpAnyH_take (i := 7) (v := ?_) rfl (by kernel_rfl) (by kernel_rfl) (by kernel_rfl) (fun _ _ _ h => h) (Or.inl ⟨by rfl, ?_⟩) (by assumption) ?_
      rotate_left
      · (intro w hSw; (try dsimp only at hSw); go_simp; (try with_reducible rfl))
      simp only [Act.put, List.setIfInBounds_toArray, List.set_cons_zero, List.set_cons_succ]
      refine wpAnyH_take (i := 8) (v := ?_) rfl (by kernel_rfl) (by kernel_rfl) (by kernel_rfl) (fun _ _ _ h => h) (Or.inl ⟨by rfl, ?_⟩) (by assumption) ?_
      rotate_left
      · (intro w hSw; (try dsimp only at hSw); go_simp; (try with_reducible rfl))
      simp only [Act.put, List.setIfInBounds_toArray, List.set_cons_zero, List.set_cons_succ]
      refine wpAnyH_take (i := 9) (v := ?_) rfl (by kernel_rfl) (by kernel_rfl) (by kernel_rfl) (fun _ _ _ h => h) (Or.inl ⟨by rfl, ?_⟩) (by assumption) ?_
      rotate_left
      · (intro w hSw; (try dsimp only at hSw); go_simp; (try with_reducible rfl))
      simp only [Act.put, List.setIfInBounds_toArray, List.set_cons_zero, List.set_cons_succ]
      refine wpAnyH_take (i := 10) (v := ?_) rfl (by kernel_rfl) (by kernel_rfl) (by kernel_rfl) (fun _ _ _ h => h) (Or.inl ⟨by rfl, ?_⟩) (by assumption) ?_
      rotate_left
      · (intro w hSw; (try dsimp only at hSw); go_simp; (try with_reducible rfl))
      simp only [Act.put, List.setIfInBounds_toArray, List.set_cons_zero, List.set_cons_succ]
      refine wpAnyH_take (i := 11) (v := ?_) rfl (by kernel_rfl) (by kernel_rfl) (by kernel_rfl) (fun _ _ _ h => h) (Or.inl ⟨by rfl, ?_⟩) (by assumption) ?_
      rotate_left
      · (intro w hSw; (try dsimp only at hSw); go_simp; (try with_reducible rfl))
      simp only [Act.put, List.setIfInBounds_toArray, List.set_cons_zero, List.set_cons_succ]
      refine wpAnyH_take (i := 12) (v := ?_) rfl (by kernel_rfl) (by kernel_rfl) (by kernel_rfl) (fun _ _ _ h => h) (Or.inl ⟨by rfl, ?_⟩) (by assumption) ?_
      rotate_left
      · (intro w hSw; (try dsimp only at hSw); go_simp; (try with_reducible rfl))
      simp only [Act.put, List.setIfInBounds_toArray, List.set_cons_zero, List.set_cons_succ]
      refine wpAnyH_take (i := 13) (v := ?_) rfl (by kernel_rfl) (by kernel_rfl) (by kernel_rfl) (fun _ _ _ h => h) (Or.inl ⟨by rfl, ?_⟩) (by assumption) ?_
      rotate_left
      · (intro w hSw; (try dsimp only at hSw); go_simp; (try with_reducible rfl))
      simp only [Act.put, List.setIfInBounds_toArray, List.set_cons_zero, List.set_cons_succ]
      refine wpAnyH_take (i := 14) (v := ?_) rfl (by kernel_rfl) (by kernel_rfl) (by kernel_rfl) (fun _ _ _ h => h) (Or.inl ⟨by rfl, ?_⟩) (by assumption) ?_
      rotate_left
      · (intro w hSw; (try dsimp only at hSw); go_simp; (try with_reducible rfl))
      simp only [Act.put, List.setIfInBounds_toArray, List.set_cons_zero, List.set_cons_succ]
      refine wpAnyH_take (i := 15) (v := ?_) rfl (by kernel_rfl) (by kernel_rfl) (by kernel_rfl) (fun _ _ _ h => h) (Or.inl ⟨by rfl, ?_⟩) (by assumption) ?_
      rotate_left
      · (intro w hSw; (try dsimp only at hSw); go_simp; (try with_reducible rfl))
      simp only [Act.put, List.setIfInBounds_toArray, List.set_cons_zero, List.set_cons_succ]
      refine wpAnyH_take (i := 16) (v := ?_) rfl (by kernel_rfl) (by kernel_rfl) (by kernel_rfl) (fun _ _ _ h => h) (Or.inl ⟨by rfl, ?_⟩) (by assumption) ?_
      rotate_left
      · (intro w hSw; (try dsimp only at hSw); go_simp; (try with_reducible rfl))
      simp only [Act.put, List.setIfInBounds_toArray, List.set_cons_zero, List.set_cons_succ]
      refine wpAnyH_take (i := 17) (v := ?_) rfl (by kernel_rfl) (by kernel_rfl) (by kernel_rfl) (fun _ _ _ h => h) (Or.inl ⟨by rfl, ?_⟩) (by assumption) ?_
      rotate_left
      · (intro w hSw; (try dsimp only at hSw); go_simp; (try with_reducible rfl))
      simp only [Act.put, List.setIfInBounds_toArray, List.set_cons_zero, List.set_cons_succ]
      refine wpAnyH_take (i := 18) (v := ?_) rfl (by kernel_rfl) (by kernel_rfl) (by kernel_rfl) (fun _ _ _ h => h) (Or.inl ⟨by rfl, ?_⟩) (by assumption) ?_
      rotate_left
      · (intro w hSw; (try dsimp only at hSw); go_simp; (try with_reducible rfl))
      simp only [Act.put, List.setIfInBounds_toArray, List.set_cons_zero, List.set_cons_succ]
      simp only [List.getElem_toArray, List.getElem_cons_succ, List.getElem_cons_zero]
      refine wpAnyH_done (by kernel_rfl) ?_ _
      dsimp only [atEnd]
      clear hS q1 q2 q4 q7
      generalize wr.drew = W at *
      go_wp2
      go_roundw
      case rel => exact ⟨j + 1, by omega, by go_num, o2, o3, hwN⟩
      case measure => simp [intOf]; omega
    · obtain rfl : k = j := by omega
      have hpa : ovTo (fun i => (nth x i + cc * nth y i) % p) x k = (List.range k).map fun i => (nth x i + cc * nth y i) % p := by
        have := ovTo_all (fun i => (nth x i + cc * nth y i) % p) x
        rwa [HL2.out] at this
      rw [hpa] at ho2
      clear hpa
      have hDg := map_dg (p := p) (by omega) k fun i => nth x i + cc * nth y i
      have hnum := l03Number_any A2 k c2 _ p wr ho2.reads hDg hp (by omega) (by rw [List.length_map, List.length_range]; have := HQ.out; omega) (by omega)
      rw [← HSum.out] at hnum
      have y0 := (H.out.keep hw).c0
      clear hDg ho2 ho3
      go_wp2_with fail
      refine hnum.mono ?_
      rintro e w' ⟨rfl, rfl⟩
      go_wp2
      go_ret
      exact ⟨rfl, hw⟩
end Go.Proofs.Ytcnjlkabdfcjdaa
