/- Sylvester's matrices, normal matrices and their designs: the program's side. No condition beyond those stated. -/
import Derived.Test.YtnmcmologlgccaaGreatSZAI
import Derived.Test.YtnmcmologlgccaaGreatSZAK
set_option linter.unusedVariables false
set_option linter.unusedSimpArgs false
namespace Go.Proofs.YtnmcmologlgccaaGreat
open Go.RowKit
theorem add_addH (ad : Addr) (k j : Nat) : (ad.add k).add j = ad.add (k + j) := by
  unfold Addr.add
  by_cases hk : k = 0
  · subst hk; simp
  · by_cases hj : j = 0
    · subst hj; simp
    · simp [hk, hj, Nat.add_assoc]
theorem RI.dropH {w : World} {ad : Addr} {n : Nat} {zs : List Int} (h : RI w (some ad) n zs) {k : Nat} : RI w (some (ad.add k)) (n - k) (zs.drop k) := by
  refine ⟨by rw [List.length_drop, h.len], fun j z hz => ?_⟩
  rw [List.getElem?_drop] at hz
  obtain ⟨ad', v, ha, hc, r⟩ := RS.at_ h (k + j) z hz
  cases ha
  exact ⟨ad.add k, v, rfl, by rw [add_addH]; exact hc, r⟩
theorem ORv.litH {w : World} {B : Nat} {v : Sl} {z : List Int} (ho : OI w B 2 v.1 v.2.1 v.2.2 z) (hB : B ≤ w.heap.size) :
    ORv (w.alloc (.cells #[.slice v.1 v.2.1 v.2.2] 36)) B 36 2 (some ⟨w.heap.size, 0, none⟩) 1 1 [v] [z] := by
  refine ⟨OS.lit w B 36 1 1 #[.slice v.1 v.2.1 v.2.2] hB rfl (by omega), rfl, fun j u y hu hy => ?_, fun i j u x hij hu hx => ?_, by decide⟩
  · cases j with
    | zero =>
      simp at hu hy
      subst hu; subst hy
      exact ho.alloc _
    | succ j => simp at hu
  · cases i with
    | zero =>
      cases j with
      | zero => exact absurd rfl hij
      | succ j => simp at hx
    | succ i => simp at hu
theorem RR.twoH {w : World} {A1 A2 : Option Addr} {n1 c1 n2 c2 : Nat} {s1 s2 : List Int} (h1 : RI w A1 n1 s1) (h2 : RI w A2 n2 s2) (k1 : n1 ≤ c1) (k2 : c1 ≤ 9223372036854775807) (k3 : n2 ≤ c2) (k4 : c2 ≤ 9223372036854775807) :
    RR (w.alloc (.cells #[.slice A1 n1 c1, .slice A2 n2 c2] 36)) (some ⟨w.heap.size, 0, none⟩) 2 [s1, s2] :=
  ⟨rfl, fun j x hx => by
    rcases j with _ | _ | j
    · obtain rfl : s1 = x := by simpa using hx
      exact ⟨_, _, rfl, (Blk.new w 36 #[.slice A1 n1 c1, .slice A2 n2 c2]).cell 0, A1, n1, c1, rfl, k1, k2, h1.keep (below_alloc w _)⟩
    · obtain rfl : s2 = x := by simpa using hx
      exact ⟨_, _, rfl, (Blk.new w 36 #[.slice A1 n1 c1, .slice A2 n2 c2]).cell 1, A2, n2, c2, rfl, k3, k4, h2.keep (below_alloc w _)⟩
    · simp at hx⟩
def SqP (m : Nat) (h : List (List Int)) : Prop := h.length = m ∧ ∀ i, i < m → (row h i).length = m ∧ PM (row h i) m
theorem fillS_sq {F : Nat → Nat → Int} {n : Nat} (h : ∀ x y, x < n → y < n → F x y = 1 ∨ F x y = -1) : SqP n (fillS F n n) := by
  refine ⟨fillS_len _ _ _, fun i hi => ?_⟩
  rw [fillS_row F hi]
  refine ⟨fillR_len _ _ _, fun k hk => ?_⟩
  rw [fillR_nth F hk]
  exact h i k hi hk
theorem SqP.at_ {m : Nat} {h : List (List Int)} (hs : SqP m h) {i j : Nat} (hi : i < m) (hj : j < m) : atS h i j = 1 ∨ atS h i j = -1 := (hs.2 i hi).2 j hj
theorem pm_two {a b : Int} (ha : a = 1 ∨ a = -1) (hb : b = 1 ∨ b = -1) : a * b = 1 ∨ a * b = -1 := by
  rcases ha with rfl | rfl <;> rcases hb with rfl | rfl <;> simp
def prodF (a b : List (List Int)) (m x y : Nat) : Int := atS a (x / m) (y / m) * atS b (x % m) (y % m)
def prodH (a b : List (List Int)) : List (List Int) := fillS (prodF a b b.length) (a.length * b.length) (a.length * b.length)
theorem prodF_pm {n m : Nat} {a b : List (List Int)} (ha : SqP n a) (hb : SqP m b) (hm : 1 ≤ m) {x y : Nat} (hx : x < n * m) (hy : y < n * m) : prodF a b m x y = 1 ∨ prodF a b m x y = -1 := by
  unfold prodF
  refine pm_two (ha.at_ ?_ ?_) (hb.at_ (Nat.mod_lt _ hm) (Nat.mod_lt _ hm))
  · exact (Nat.div_lt_iff_lt_mul hm).2 hx
  · exact (Nat.div_lt_iff_lt_mul hm).2 hy
theorem prodH_sq {n m : Nat} {a b : List (List Int)} (ha : SqP n a) (hb : SqP m b) (hm : 1 ≤ m) : SqP (n * m) (prodH a b) := by
  unfold prodH
  rw [ha.1, hb.1]
  exact fillS_sq fun x y hx hy => prodF_pm ha hb hm hx hy
def sylB : List (List Int) := [[1, 1], [1, -1]]
def sylP : Nat → List (List Int)
  | 0 => [[1]]
  | k + 1 => prodH sylB (sylP k)
theorem sylB_sq : SqP 2 sylB := by
  refine ⟨rfl, fun i hi => ?_⟩
  rcases i with _ | _ | i
  · refine ⟨rfl, fun k hk => ?_⟩
    rcases k with _ | _ | k
    · exact .inl rfl
    · exact .inl rfl
    · omega
  · refine ⟨rfl, fun k hk => ?_⟩
    rcases k with _ | _ | k
    · exact .inl rfl
    · exact .inr rfl
    · omega
  · omega
theorem sylP_sq : ∀ k, SqP (2 ^ k) (sylP k)
  | 0 => ⟨rfl, fun i hi => by
      obtain rfl : i = 0 := by omega
      refine ⟨rfl, fun k hk => ?_⟩
      obtain rfl : k = 0 := by omega
      exact .inl rfl⟩
  | k + 1 => by
    have := prodH_sq sylB_sq (sylP_sq k) (Nat.pow_pos (by omega))
    rw [Nat.pow_succ, Nat.mul_comm]
    exact this
set_option maxRecDepth 100000 in
set_option maxHeartbeats 2000000 in
theorem prod1_any (pa pm pb : Addr) (A B : Option Addr) (n c m d : Nat) (a b : List (List Int)) (x y : Nat) (w : World) (ca : w.cell? pa = some (.slice A n c)) (cm : w.cell? pm = some (.int .i64 (m : Int))) (cb : w.cell? pb = some (.slice B m d)) (hra : RR w A n a) (hrb : RR w B m b) (ha : SqP n a) (hb : SqP m b) (hm : 1 ≤ m) (hnm : n * m ≤ 1000) (hx : x < n * m) (hy : y < n * m) :
    Calls Tryz.prog 205 #[.int .i64 x, .int .i64 y, .pointer (some pa), .pointer (some pm), .pointer (some pb)] w (fun e w' => e = .returned (.int .i64 (prodF a b m x y)) ∧ Below w.heap.size w w') := by
  have hx1 : x / m < n := (Nat.div_lt_iff_lt_mul hm).2 hx
  have hy1 : y / m < n := (Nat.div_lt_iff_lt_mul hm).2 hy
  have hx2 : x % m < m := Nat.mod_lt _ hm
  have hy2 : y % m < m := Nat.mod_lt _ hm
  have e1 : (x : Int) / (m : Int) = ((x / m : Nat) : Int) := rfl
  have e2 : (y : Int) / (m : Int) = ((y / m : Nat) : Int) := rfl
  have e3 : (x : Int) % (m : Int) = ((x % m : Nat) : Int) := rfl
  have e4 : (y : Int) % (m : Int) = ((y % m : Nat) : Int) := rfl
  have hne : ¬ (m : Int) = 0 := by omega
  obtain ⟨la, pma⟩ := ha.2 _ hx1
  obtain ⟨lb, pmb⟩ := hb.2 _ hx2
  obtain ⟨ad, R1, n1, c1, rfl, cx1, k1, k2, hr1⟩ := hra.get hx1
  obtain ⟨bd, R2, n2, c2, rfl, cx2, k3, k4, hr2⟩ := hrb.get hx2
  obtain rfl : n1 = n := by rw [← hr1.len]; exact la
  obtain rfl : n2 = m := by rw [← hr2.len]; exact lb
  have v1 := pma _ hy1
  have v2 := pmb _ hy2
  obtain ⟨ad1, rfl, cy1, i1⟩ := hr1.get hy1
  obtain ⟨ad2, rfl, cy2, i2⟩ := hr2.get hy2
  have HF : Hid (prodF a b n2 x y = nth (row a (x / n2)) (y / n2) * nth (row b (x % n2)) (y % n2)) := Lib.hid rfl
  have hpp := pm_two v1 v2
  generalize nth (row a (x / n2)) (y / n2) = s1 at *
  generalize nth (row b (x % n2)) (y % n2) = s2 at *
  have hx0 : x ≤ 1000 := by omega
  have hy0 : y ≤ 1000 := by omega
  clear hx hy hnm la lb pma pmb hra hrb ha hb hr1 hr2
  generalize x / n2 = xd at *
  generalize x % n2 = xm at *
  generalize y / n2 = yd at *
  generalize y % n2 = ym at *
  go_enter Tryz.func205, Tryz.ntmps205
  go_wp2
  go_quiet (fail)
  go_wp2
  go_ret
  exact ⟨by rw [HF.out]; rfl, below_drewn _ _⟩
set_option maxRecDepth 100000 in
set_option maxHeartbeats 4000000 in
theorem productHadamard_any (A B : Option Addr) (n c m d : Nat) (a b : List (List Int)) (w : World) (hra : RR w A n a) (hrb : RR w B m b) (ha : SqP n a) (hb : SqP m b) (hm : 1 ≤ m) (hnm : n * m ≤ 1000) (hn : n ≤ 1000) (hm2 : m ≤ 1000) :
    Calls Tryz.prog 187 #[.slice A n c, .slice B m d] w (RetR w 36 2 (prodH a b)) := by
  have eg : ∀ (args : Array Value) (w : World), (callFunc 205 args).run Tryz.prog w = .ok (.enter 205 args) w := fun _ _ => by kernel_rfl
  obtain ⟨N, hN⟩ : ∃ N, N = n * m := ⟨_, rfl⟩
  have e1 : (n : Int) * (m : Int) = (N : Int) := by rw [hN]; push_cast; rfl
  have HPH : Hid (prodH a b = fillS (prodF a b m) N N) := Lib.hid (by unfold prodH; rw [ha.1, hb.1, hN])
  have HN := Lib.hid hN
  have hN1 : N ≤ 1000 := by omega
  have HM := Lib.hid hnm
  clear hN hnm
  have hb1 := below_alloc w (.cells #[.slice A n c] 26)
  have X1 := (Blk.new w 26 #[.slice A n c]).cell 0
  have s1 : (w.alloc (.cells #[.slice A n c] 26)).heap.size = w.heap.size + 1 := by simp
  have hb2 := below_alloc (w.alloc (.cells #[.slice A n c] 26)) (.cells #[.slice B m d] 26)
  have X2 := (Blk.new (w.alloc (.cells #[.slice A n c] 26)) 26 #[.slice B m d]).cell 0
  rw [s1] at X2
  go_enter Tryz.func187, Tryz.ntmps187
  go_wp2_with (fail)
  refine (sizeR_any B m d _ (by omega)).mono ?_
  rintro e w' ⟨rfl, rfl⟩
  have s2 : ((w.alloc (.cells #[.slice A n c] 26)).alloc (.cells #[.slice B m d] 26)).heap.size = w.heap.size + 2 := by simp
  have hb12 := below_then hb1 hb2
  have X1 := below_cell hb2 X1
  generalize (w.alloc (.cells #[.slice A n c] 26)).alloc (.cells #[.slice B m d] 26) = w2 at *
  clear hb1 hb2 s1
  have hb3 := below_alloc w2 (.cells #[.int .i64 (m : Int)] 2)
  have X3 := (Blk.new w2 2 #[.int .i64 (m : Int)]).cell 0
  have z3 := (Blk.new w2 2 #[.int .i64 (m : Int)]).frozen 0
  have X1 := below_cell hb3 X1
  have X2 := below_cell hb3 X2
  have ha3 := (hra.keep hb12).keep hb3
  have hb3' := (hrb.keep hb12).keep hb3
  have hb13 := below_then hb12 hb3
  go_wp2
  generalize w2.alloc (.cells #[.int .i64 (m : Int)] 2) = W3 at *
  generalize w2.heap.size = gm at *
  subst s2
  have hask : ∀ W, Below W3.heap.size W3 W → AskS 205 #[.pointer (some ⟨w.heap.size, 0, none⟩), .pointer (some ⟨w.heap.size + 2, 0, none⟩), .pointer (some ⟨w.heap.size + 1, 0, none⟩)] (prodF a b m) N W := fun W hW x y W' hW' hx hy => by
    have hWW := hW.trans (hW'.mono hW.size)
    exact prod1_any _ _ _ A B n c m d a b x y W' (below_cell hWW X1) (below_cell hWW X3) (below_cell hWW X2) (ha3.keep hWW) (hb3'.keep hWW) ha hb hm HM.out (by rw [← HN.out]; exact hx) (by rw [← HN.out]; exact hy)
  have h64 : ∀ x y, x < N → y < N → I64 (prodF a b m x y) := fun x y hx hy => by
    have := prodF_pm ha hb hm (x := x) (y := y) (by rw [← HN.out]; exact hx) (by rw [← HN.out]; exact hy)
    unfold I64
    omega
  have HFS := Lib.hid (fun (W : World) (hW : Below W3.heap.size W3 W) => filledSquare_any 205 _ eg (prodF a b m) N W (by omega) h64 (hask W hW))
  have hdr : Below W3.heap.size W3 W3.drew := by have := below_drewn W3 1; rwa [← World.drew_is_drewN] at this
  have hs3 := hb13.size
  clear hask h64 eg z3 hb12 hb3 ha3 hb3' ha hb
  refine region_sufX (P := Tryz.prog) (n := 5) (i := 4) (v := .func (.func 205) #[] #[.pointer (some ⟨w.heap.size, 0, none⟩), .pointer (some ⟨w.heap.size + 2, 0, none⟩), .pointer (some ⟨w.heap.size + 1, 0, none⟩)]) (S := fun w' => w'.cell? ⟨w.heap.size, 0, none⟩ = some (.slice A n c) ∧ w'.cell? ⟨w.heap.size + 2, 0, none⟩ = some (.int .i64 (m : Int)) ∧ Below W3.heap.size W3 w') (by kernel_rfl) (by simp only [List.take_succ_cons, List.take_zero]; rfl) (by simp only [List.drop_succ_cons, List.drop_zero]; rfl) (by kernel_rfl) rfl (by decide) (by kernel_rfl) (by kernel_rfl) (by kernel_rfl) (by kernel_rfl) (fun _ _ _ h => h) (Or.inl ⟨by rfl, ?_⟩) ⟨below_cell hdr X1, below_cell hdr X3, hdr⟩ ?_
  · intro w5
    go_simp
  intro hS
  simp only [Act.put, List.setIfInBounds_toArray, List.set_cons_zero, List.set_cons_succ]
  generalize W3.drew = W5 at *
  clear hdr
  refine wpAnyH_take (i := 0) (v := ?_) rfl (by kernel_rfl) (by kernel_rfl) (by kernel_rfl) (fun _ _ _ h => h) (Or.inl ⟨by rfl, ?_⟩) (by assumption) ?_
  rotate_left
  · (intro w hSw; (try dsimp only at hSw); go_simp; (try with_reducible rfl))
  simp only [Act.put, List.setIfInBounds_toArray, List.set_cons_zero, List.set_cons_succ]
  refine wpAnyH_take (i := 2) (v := ?_) rfl (by kernel_rfl) (by kernel_rfl) (by kernel_rfl) (fun _ _ _ h => h) (Or.inl ⟨by rfl, ?_⟩) (by assumption) ?_
  rotate_left
  · (intro w hSw; (try dsimp only at hSw); go_simp; (try with_reducible rfl))
  simp only [Act.put, List.setIfInBounds_toArray, List.set_cons_zero, List.set_cons_succ]
  simp only [List.getElem_toArray, List.getElem_cons_succ, List.getElem_cons_zero]
  refine wpAnyH_ready (rs := [1]) (by kernel_rfl) (by simp) ?_
  refine AllReadyH.cons rfl (fun K hK => ?_) AllReadyH.nil
  go_simp
  refine (sizeR_any A n c _ (by omega)).mono ?_
  rintro e w6 ⟨rfl, rfl⟩
  dsimp only
  refine hK.out _ _ hS (fun hS2 => ?_)
  clear hK K
  refine wpAnyH_take (i := 3) (v := ?_) rfl (by kernel_rfl) (by kernel_rfl) (by kernel_rfl) (fun _ _ _ h => h) (Or.inl ⟨by rfl, ?_⟩) (by assumption) ?_
  rotate_left
  · (intro w hSw; (try dsimp only at hSw); go_simp; (try with_reducible rfl))
  simp only [Act.put, List.setIfInBounds_toArray, List.set_cons_zero, List.set_cons_succ]
  try simp only [List.getElem_toArray, List.getElem_cons_succ, List.getElem_cons_zero, Act.put, List.setIfInBounds_toArray, List.set_cons_zero, List.set_cons_succ]
  refine wpAnyH_done (by kernel_rfl) ?_ _
  dsimp only [atEnd]
  have hfs := HFS.out _ hS2.2.2
  have hbw := hb13.trans (hS2.2.2.mono hs3)
  have hbs := hbw.size
  go_wp2_with (fail)
  refine hfs.mono ?_
  rintro e w4 ⟨R, rc, rfl, ho, hb4⟩
  have hor := Lib.hid (ho.more hbs)
  have hbw2 := Lib.hid (hbw.trans (hb4.mono hbs))
  clear ho hb4 hfs
  go_wp2
  go_ret
  refine ⟨R, N, rc, rfl, ?_, hbw2.out⟩
  rw [HPH.out]
  exact hor.out
theorem sylP_le (k : Nat) (h : k ≤ 5) : 2 ^ k ≤ 32 := by
  have := Nat.pow_le_pow_right (n := 2) (by omega) h
  simpa using this
set_option maxRecDepth 100000 in
set_option maxHeartbeats 4000000 in
theorem sylvester_any (k : Nat) (w : World) (hk : k ≤ 5) : Calls Tryz.prog 153 #[.int .i64 k] w (RetRC w 36 2 (sylP k) 0) := by
  have hik : inB (k : Int) 0 5 = true := inB_mk ⟨by omega, by omega⟩
  go_enter Tryz.func153, Tryz.ntmps153
  go_wp2_with (go_at_call 30; refine (within_any _ _ _ _).mono ?_; rintro e w' ⟨rfl, rfl⟩; rw [hik])
  go_loopw [0, 4] (fun kv lv wr => ∃ (j : Nat) (A : Option Addr) (n c : Nat), j ≤ k ∧ kv = .int .i64 ((k : Int) - j) ∧ n = 2 ^ j ∧ lv = .slice A n c ∧ OR wr w.heap.size 36 2 A n c (sylP j) ∧ Below w.heap.size w wr) (fun kv _ _ => (intOf kv).toNat)
  case atStart =>
    have ho1 : OI (w.alloc (.cells #[.int .i64 1] 2)) w.heap.size 2 (some ⟨w.heap.size, 0, none⟩) 1 1 [1] :=
      OI.lit w w.heap.size 2 [1] (Nat.le_refl _) (by simp) (fun u hu => by simp at hu; rw [hu]; unfold I64; omega)
    have hz : (w.alloc (.cells #[.int .i64 1] 2)).heap.size = w.heap.size + 1 := by simp
    have ho2 := ORv.litH (v := (some ⟨w.heap.size, 0, none⟩, 1, 1)) ho1 (by omega)
    rw [hz] at ho2
    have hb1 := below_alloc w (.cells #[.int .i64 1] 2)
    exact ⟨0, _, 1, 1, Nat.zero_le _, by simp, rfl, rfl, ⟨_, ho2⟩, hb1.alloc (by omega) _⟩
  case round =>
    obtain ⟨j, A, n, c, hj, rfl, hn, rfl, ho, hb⟩ := hrel
    have hbs := hb.size
    by_cases hlj : j < k
    · have hle := sylP_le (j + 1) (by omega)
      have hle2 : 2 ^ (j + 1) = 2 * 2 ^ j := by rw [Nat.pow_succ, Nat.mul_comm]
      have h1 : 1 ≤ n := by rw [hn]; exact Nat.pow_pos (by omega)
      have h16 : 2 * n ≤ 32 := by rw [hn]; omega
      have hsq := sylP_sq j
      rw [← hn] at hsq
      have HPW := Lib.hid (show 2 * n = 2 ^ (j + 1) by rw [hn, hle2])
      have HLL := Lib.hid (show (prodH sylB (sylP j)).length = 2 * n from (prodH_sq sylB_sq hsq h1).1)
      have HK := Lib.hid (show sylP (j + 1) = prodH sylB (sylP j) from rfl)
      have hl1 := OI.lit wr wr.heap.size 2 [1, 1] (Nat.le_refl _) (by simp) (fun u hu => by simp at hu; rw [hu]; unfold I64; omega)
      have hl2 := OI.lit (wr.alloc (.cells #[.int .i64 1, .int .i64 1] 2)) (wr.heap.size + 1) 2 [1, -1] (by simp) (by simp) (fun u hu => by simp at hu; rcases hu with rfl | rfl <;> (unfold I64; omega))
      have z1 : (wr.alloc (.cells #[.int .i64 1, .int .i64 1] 2)).heap.size = wr.heap.size + 1 := by simp
      have hb1 := below_alloc wr (.cells #[.int .i64 1, .int .i64 1] 2)
      have hb2 := below_alloc (wr.alloc (.cells #[.int .i64 1, .int .i64 1] 2)) (.cells #[.int .i64 1, .int .i64 (-1)] 2)
      have hr3 := RR.twoH ((hl1.reads).keep hb2) (hl2.reads) (n1 := 2) (n2 := 2) (c1 := 2) (c2 := 2) (by omega) (by omega) (by omega) (by omega)
      have hb12 := below_then hb1 hb2
      rw [z1] at hr3
      have hb3 := below_alloc ((wr.alloc (.cells #[.int .i64 1, .int .i64 1] 2)).alloc (.cells #[.int .i64 1, .int .i64 (-1)] 2)) (.cells #[.slice (some ⟨wr.heap.size, 0, none⟩) 2 2, .slice (some ⟨wr.heap.size + 1, 0, none⟩) 2 2] 36)
      have hb123 := below_then hb12 hb3
      clear hn hle hle2
      have z2 : ((wr.alloc (.cells #[.int .i64 1, .int .i64 1] 2)).alloc (.cells #[.int .i64 1, .int .i64 (-1)] 2)).heap.size = wr.heap.size + 1 + 1 := by simp
      rw [z2] at hr3
      have hph := productHadamard_any (some ⟨wr.heap.size + 1 + 1, 0, none⟩) A 2 2 n c sylB (sylP j) _ hr3 ((ho.reads).keep hb123) sylB_sq hsq h1 (by omega) (by omega) (by omega)
      have hw3 := hb.trans (hb123.mono hbs)
      have hws := hw3.size
      rw [← HK.out] at hph HLL
      clear hl1 hl2 z1 z2 hb1 hb2 hr3 hb12 hb3 hb123
      go_wp2_with fail
      refine hph.mono ?_
      rintro e w5 ⟨R, rn, rc, rfl, hor, hb5⟩
      have hrl := OR.len hor
      rw [HLL.out] at hrl
      have hor5 := hor.more hws
      have hw5 := hw3.trans (hb5.mono hws)
      clear hph hor hb5 hw3 hws ho hb
      go_wp2
      go_round
      case rel => exact ⟨j + 1, R, rn, rc, by omega, by go_num, by rw [← hrl]; exact HPW.out, rfl, hor5, hw5⟩
      case measure => simp only [intOf]; omega
    · obtain rfl : j = k := by omega
      go_wp2
      go_ret2
      exact ⟨A, n, c, rfl, ho, hb⟩
theorem addH0 (ad : Addr) : ad.add 0 = ad := by simp [Addr.add]
def nrmF (h : List (List Int)) (x y : Nat) : Int := atS h x y * atS h 0 y * atS h x 0 * atS h 0 0
def nrmP (h : List (List Int)) : List (List Int) := fillS (nrmF h) h.length h.length
theorem nrmF_pm {n : Nat} {h : List (List Int)} (hs : SqP n h) {x y : Nat} (hx : x < n) (hy : y < n) : nrmF h x y = 1 ∨ nrmF h x y = -1 := by
  unfold nrmF
  exact pm_two (pm_two (pm_two (hs.at_ hx hy) (hs.at_ (by omega) hy)) (hs.at_ hx (by omega))) (hs.at_ (by omega) (by omega))
theorem had_sq {h : List (List Int)} (hh : Had h) : SqP h.length h := ⟨rfl, fun i hi => hh.2.2.1 i hi⟩
def onesK (l : List Int) (k : Nat) : List Int := ((List.range k).filter fun j => nth l j == 1).map fun (j : Nat) => (j : Int)
theorem onesK_yes {l : List Int} {k : Nat} (h : (nth l k == 1) = true) : onesK l (k + 1) = onesK l k ++ [(k : Int)] := by simp only [onesK, List.range_succ, List.filter_append, List.filter_cons, h, List.map_append]; rfl
theorem onesK_no {l : List Int} {k : Nat} (h : (nth l k == 1) = false) : onesK l (k + 1) = onesK l k := by simp only [onesK, List.range_succ, List.filter_append, List.filter_cons, h, List.map_append]; simp
theorem onesK_len (l : List Int) (k : Nat) : (onesK l k).length ≤ k := by
  unfold onesK
  rw [List.length_map]
  exact Nat.le_trans (List.length_filter_le _ _) (by simp)
def onesR (r : List Int) : List Int := onesK (r.drop 1) (r.drop 1).length
def hdL (h : List (List Int)) : List (List Int) := ((nrmP h).drop 1).map onesR
theorem map_take_stepH {F : List Int → List Int} {L : List (List Int)} {i : Nat} (h : i < L.length) : (L.take (i + 1)).map F = (L.take i).map F ++ [F (row L i)] := by
  rw [List.take_add_one, List.getElem?_eq_getElem h, List.map_append, row_get h]
  rfl
theorem hdL_len (h : List (List Int)) : (hdL h).length = h.length - 1 := by unfold hdL nrmP; rw [List.length_map, List.length_drop, fillS_len]
theorem hdL_cells (h : List (List Int)) (hn : h.length ≤ 32) : cells (hdL h) ≤ 1099511627776 := by
  have := cells_le3 (bs := hdL h) (fun b hb => by
    obtain ⟨r, hr, rfl⟩ := List.mem_map.1 hb
    have hr := List.mem_of_mem_drop hr
    obtain ⟨x, _, rfl⟩ := List.mem_map.1 hr
    have := onesK_len ((fillR (nrmF h) x h.length).drop 1) ((fillR (nrmF h) x h.length).drop 1).length
    rw [List.length_drop, fillR_len] at this
    unfold onesR
    rw [List.length_drop, fillR_len]
    omega)
  rw [hdL_len] at this
  omega
set_option maxRecDepth 100000 in
set_option maxHeartbeats 2000000 in
theorem normal1_any (ph : Addr) (A : Option Addr) (n c : Nat) (h : List (List Int)) (x y : Nat) (w : World) (ch : w.cell? ph = some (.slice A n c)) (hr : RR w A n h) (hs : SqP n h) (hn : n ≤ 1000) (hx : x < n) (hy : y < n) :
    Calls Tryz.prog 208 #[.int .i64 x, .int .i64 y, .pointer (some ph)] w (fun e w' => e = .returned (.int .i64 (nrmF h x y)) ∧ Below w.heap.size w w') := by
  have h0 : 0 < n := by omega
  obtain ⟨la, pma⟩ := hs.2 _ hx
  obtain ⟨lb, pmb⟩ := hs.2 _ h0
  obtain ⟨ad, R1, n1, c1, rfl, cx1, k1, k2, hr1⟩ := hr.get hx
  obtain ⟨ad', R2, n2, c2, e2, cx2, k3, k4, hr2⟩ := hr.get h0
  obtain rfl : ad' = ad := by injection e2 with e2; exact e2.symm
  clear e2
  obtain rfl : n1 = n := by rw [← hr1.len]; exact la
  obtain rfl : n2 = n1 := by rw [← hr2.len]; exact lb
  have v1 := pma _ hy
  have v2 := pmb _ hy
  have v3 := pma _ h0
  have v4 := pmb _ h0
  obtain ⟨ad1, rfl, cy1, i1⟩ := hr1.get hy
  obtain ⟨ad1', e3, cy3, i3⟩ := hr1.get h0
  obtain rfl : ad1' = ad1 := by injection e3 with e3; exact e3.symm
  obtain ⟨ad2, rfl, cy2, i2⟩ := hr2.get hy
  obtain ⟨ad2', e4, cy4, i4⟩ := hr2.get h0
  obtain rfl : ad2' = ad2 := by injection e4 with e4; exact e4.symm
  clear e3 e4
  rw [addH0] at cy3 cy4 cx2
  have HF : Hid (nrmF h x y = nth (row h x) y * nth (row h 0) y * nth (row h x) 0 * nth (row h 0) 0) := Lib.hid rfl
  have p2 := pm_two v1 v2
  have p3 := pm_two p2 v3
  have p4 := pm_two p3 v4
  generalize nth (row h x) y = s1 at *
  generalize nth (row h 0) y = s2 at *
  generalize nth (row h x) 0 = s3 at *
  generalize nth (row h 0) 0 = s4 at *
  clear la lb pma pmb hr hs hr1 hr2
  generalize hp2 : s1 * s2 = t2 at *
  generalize hp3 : t2 * s3 = t3 at *
  generalize hp4 : t3 * s4 = t4 at *
  go_enter Tryz.func208, Tryz.ntmps208
  go_wp2
  go_quiet (fail)
  go_wp2
  go_ret
  exact ⟨by rw [HF.out]; rfl, below_drewn _ _⟩
set_option maxRecDepth 100000 in
set_option maxHeartbeats 4000000 in
theorem normalHadamard_any (A : Option Addr) (n c : Nat) (h : List (List Int)) (w : World) (hr : RR w A n h) (hs : SqP n h) (hn : n ≤ 1000) :
    Calls Tryz.prog 189 #[.slice A n c] w (fun e w' => ∃ R rc, e = .returned (.slice R n rc) ∧ OR w' w.heap.size 36 2 R n rc (nrmP h) ∧ Below w.heap.size w w') := by
  have eg : ∀ (args : Array Value) (w : World), (callFunc 208 args).run Tryz.prog w = .ok (.enter 208 args) w := fun _ _ => by kernel_rfl
  have HPH : Hid (nrmP h = fillS (nrmF h) n n) := Lib.hid (by unfold nrmP; rw [hs.1])
  have hb1 := below_alloc w (.cells #[.slice A n c] 26)
  have X1 := (Blk.new w 26 #[.slice A n c]).cell 0
  have hr1 := hr.keep hb1
  have hask : AskS 208 #[.pointer (some ⟨w.heap.size, 0, none⟩)] (nrmF h) n (w.alloc (.cells #[.slice A n c] 26)) := fun x y W hW hx hy => by
    exact normal1_any _ A n c h x y W (below_cell hW X1) (hr1.keep hW) hs hn hx hy
  have h64 : ∀ x y, x < n → y < n → I64 (nrmF h x y) := fun x y hx hy => by
    have := nrmF_pm hs hx hy
    unfold I64
    omega
  have hfs := filledSquare_any 208 _ eg (nrmF h) n _ hn h64 hask
  have hs1 := hb1.size
  have HB := Lib.hid hb1
  clear hask h64 eg hr1 hr hs hb1
  go_enter Tryz.func189, Tryz.ntmps189
  go_wp2_with (fail)
  refine (sizeR_any A n c _ (by omega)).mono ?_
  rintro e w' ⟨rfl, rfl⟩
  go_wp2_with (fail)
  refine hfs.mono ?_
  rintro e w4 ⟨R, rc, rfl, ho, hb4⟩
  have hor := Lib.hid (ho.more hs1)
  have hbw2 := Lib.hid (HB.out.trans (hb4.mono hs1))
  clear ho hb4 hfs
  go_wp2
  go_ret
  refine ⟨R, rc, rfl, ?_, hbw2.out⟩
  rw [HPH.out]
  exact hor.out
theorem or_some {w : World} {B : Nat} {e2 e1 : TypeId} {A : Option Addr} {n c : Nat} {zss : List (List Int)} (h : OR w B e2 e1 A n c zss) (hn : 0 < n) : ∃ g, A = some ⟨g, 0, none⟩ := by
  obtain ⟨vs, h⟩ := h
  have hl := h.os.len
  rw [List.length_map] at hl
  obtain ⟨g, ha, _⟩ := h.os.cell (j := 0) (u := slv (vs[0]'(by omega))) (by rw [List.getElem?_map, List.getElem?_eq_getElem (by omega)]; rfl)
  exact ⟨g, ha⟩
set_option maxRecDepth 100000 in
set_option maxHeartbeats 8000000 in
theorem designOfHadamard_any (A : Option Addr) (n c : Nat) (h : List (List Int)) (w : World) (hr : RR w A n h) (hh : Had h) (h4 : 4 ≤ n) (hnc : n ≤ c) (hc : c ≤ 9223372036854775807) :
    Calls Tryz.prog 154 #[.slice A n c] w (RetD w ((n - 1 : Nat) : Int) (srtR (hdL h)) 0) := by
  have hnl := hr.len
  have h32 := hh.2.1
  have hsq : SqP n h := by rw [← hnl]; exact had_sq hh
  have hb0 := below_alloc w (.cells #[.int .i64 0, .slice none 0 0] 28)
  have Y := Blk.new w 28 #[.int .i64 0, .slice none 0 0]
  have hz0 : (w.alloc (.cells #[.int .i64 0, .slice none 0 0] 28)).heap.size = w.heap.size + 1 := by simp
  have hvh := validHadamard_any A n c h (w.alloc (.cells #[.int .i64 0, .slice none 0 0] 28)) (hr.keep hb0) hnc hc
  rw [tB_yes hh] at hvh
  have HND := Lib.hid (fun (W : World) (hb : Below w.heap.size w W) => normalHadamard_any A n c h W (hr.keep hb) hsq (by omega))
  have HLC := Lib.hid (hdL_cells h h32)
  have HLN := Lib.hid (hdL_len h)
  have hnn : n ≤ 32 := by omega
  clear hr hh
  go_enter Tryz.func154, Tryz.ntmps154
  go_wp2_with fail
  refine hvh.mono ?_
  rintro e w1 ⟨rfl, hb1⟩
  have Y1 := Y.after hb1
  have hw1 := hb0.trans (hb1.mono hb0.size)
  have hz1 : w.heap.size + 1 ≤ w1.heap.size := by have := hb1.size; omega
  have hnd := HND.out w1 hw1
  clear hvh Y hb0 hb1 hz0
  go_wp2_with fail
  refine hnd.mono ?_
  rintro e w2 ⟨R, rc, rfl, ho2, hb2⟩
  obtain ⟨nk1, nk2⟩ := OR.os_cap ho2
  obtain ⟨ng, rfl⟩ := or_some ho2 (by omega)
  have Y1 := Y1.after hb2
  have hw2 := hw1.trans (hb2.mono (by omega))
  have hz2 : w.heap.size + 1 ≤ w2.heap.size := by have := hb2.size; omega
  clear hnd hb2 HND
  obtain ⟨L, hL⟩ : ∃ L, L = (nrmP h).drop 1 := ⟨_, rfl⟩
  have hLl : L.length = n - 1 := by rw [hL, List.length_drop]; unfold nrmP; rw [fillS_len, hnl]
  have hrow : ∀ i, i < n - 1 → row L i = row (nrmP h) (i + 1) := fun i hi => by
    rw [hL]
    unfold row
    rw [List.getD_eq_getElem?_getD, List.getD_eq_getElem?_getD, List.getElem?_drop, Nat.add_comm]
  have hLr : ∀ i, i < n - 1 → (row L i).length = n := fun i hi => by
    rw [hrow i hi]
    unfold nrmP
    rw [fillS_row (nrmF h) (x := i + 1) (by omega), fillR_len, hnl]
  have HHL : Hid (hdL h = L.map onesR) := Lib.hid (by rw [hL]; rfl)
  have HLR := Lib.hid hLr
  obtain ⟨D, hD⟩ : ∃ D, D = w2.heap.size := ⟨_, rfl⟩
  have hDw : w.heap.size + 1 ≤ D := by omega
  obtain ⟨N, hN⟩ : ∃ N, n = N + 1 := ⟨n - 1, by omega⟩
  subst hN
  rw [Nat.add_sub_cancel] at *
  have HRD := Lib.hid (fun (W : World) (hb : Below D w2 W) (i : Nat) (hi : i < N) => show ∃ gr mc, W.cell? ⟨ng, 1 + i, none⟩ = some (.slice (some ⟨gr, 0, none⟩) (N + 1) mc) ∧ N + 1 ≤ mc ∧ mc ≤ 9223372036854775807 ∧ RI W (some ⟨gr, 0, none⟩) (N + 1) (row L i) from by
    obtain ⟨vs, hov⟩ := (OR.below ho2 (by rw [← hD]; exact hb))
    obtain ⟨g', v, e1, hv, cs, -, hoi⟩ := hov.get (k := i + 1) (by omega)
    obtain rfl : g' = ng := by injection e1 with e1; injection e1 with e1; exact e1.symm
    obtain ⟨va, vn, vc⟩ := v
    have hl : vn = N + 1 := by
      have h1 := hoi.len
      rw [← hrow i hi, hLr i hi] at h1
      exact h1.symm
    subst hl
    obtain ⟨gr, hga, -⟩ := hoi.os.cell (j := 0) (u := .int .i64 (nth (row (nrmP h) (i + 1)) 0)) (by
      have h1 : (row (nrmP h) (i + 1)).length = N + 1 := hoi.len
      unfold ints
      rw [List.getElem?_map, List.getElem?_eq_getElem (by omega), nth_get (by omega)]
      rfl)
    subst hga
    refine ⟨gr, vc, ?_, hoi.os.cap.1, hoi.os.cap.2, ?_⟩
    · rw [Nat.add_comm 1 i]; exact cs
    · rw [hrow i hi]; exact hoi.reads)
  have HLL := Lib.hid hLl
  clear hLr hrow ho2 hnl hLl hL
  go_wp2
  go_loopw [4, 22] (fun lv iv wr => ∃ (i : Nat) (B : Option Addr) (bc : Nat), i ≤ N ∧ iv = .int .i64 i ∧ lv = .slice B i bc ∧ OR wr D 36 2 B i bc ((L.take i).map onesR) ∧ Below D w2 wr) (fun _ iv _ => N - (intOf iv).toNat)
  case atStart => exact ⟨0, none, 0, Nat.zero_le _, rfl, rfl, OR.nil_ _ _ (by decide), by rw [hD]; exact Below.refl _ _⟩
  case round =>
    obtain ⟨i, B, bc, hi, rfl, rfl, ho, hb⟩ := hrel
    have hbs := hb.size
    by_cases hli : i < N
    · obtain ⟨gr, mc, cs, hm1, hm2, hri⟩ := HRD.out wr hb i hli
      have hrd : RI wr (some ⟨gr, 1, none⟩) N ((row L i).drop 1) := by
        have := hri.dropH (k := 1)
        simpa [Addr.add] using this
      have HRI := Lib.hid hrd
      clear hri hrd
      have HST := Lib.hid (map_take_stepH (F := onesR) (L := L) (i := i) (by rw [HLL.out]; exact hli))
      have HOR : Hid (onesR (row L i) = onesK ((row L i).drop 1) N) := Lib.hid (by unfold onesR; rw [List.length_drop, HLR.out i hli]; rfl)
      have hbr0 := hb
      obtain ⟨vs, hov⟩ := ho
      go_wp2
      generalize (row L i).drop 1 = l at *
      generalize onesR (row L i) = orw at *
      clear hm1 hm2
      generalize hW : wr = W1 at *
      clear hW cs
      go_loopw [7, 29] (fun lv jv wr => ∃ (j : Nat) (R : Option Addr) (rn rc : Nat), j ≤ N ∧ jv = .int .i64 j ∧ lv = .slice R rn rc ∧ OI wr W1.heap.size 2 R rn rc (onesK l j) ∧ Below W1.heap.size W1 wr) (fun _ jv _ => N - (intOf jv).toNat)
      case atStart => exact ⟨0, none, 0, 0, Nat.zero_le _, rfl, rfl, OI.nil_ _ _ _, Below.refl _ _⟩
      case round =>
        obtain ⟨j, R, rn, rc, hj, rfl, rfl, hor, hbr⟩ := hrel
        have hbrs := hbr.size
        have hrl := hor.len
        have hll := onesK_len l j
        by_cases hlj : j < N
        · obtain ⟨la, e1, cl, il⟩ := (HRI.out.keep hbr).get hlj
          obtain rfl : la = ⟨gr, 1, none⟩ := by injection e1 with e1; exact e1.symm
          clear e1
          rw [Addr.add_lit] at cl
          cases ho1 : (nth l j == 1) with
          | true =>
            have HST := Lib.hid (onesK_yes ho1)
            generalize nth l j = lj at *
            go_wp2_with (at_builtin; refine app_int _ rfl (.tmp 36) (.tmp 38) rfl W1.heap.size R rn rc _ rfl hor (j : Int) wr.heap.size rfl rfl ⟨by omega, by omega⟩ (by omega) (by omega) ?_; intro A5 c5 w5 ho5 hg5 hf5; have hb5 := below_own hbr hg5 (by omega) (fun b hb => (hor.os.lt hb).1); rw [← HST.out] at ho5)
            go_round
            case rel => exact ⟨j + 1, A5, rn + 1, c5, by omega, by go_num, rfl, ho5, hb5⟩
            case measure => simp only [intOf]; omega
          | false =>
            have HST := Lib.hid (onesK_no ho1)
            generalize nth l j = lj at *
            go_wp2
            go_round
            case rel => exact ⟨j + 1, R, rn, rc, by omega, by go_num, rfl, by rw [HST.out]; exact hor, hbr⟩
            case measure => simp only [intOf]; omega
        · obtain rfl : j = N := by omega
          have hov1 := hov.below hbr
          have hap := hov.apart_new (v := (R, rn, rc)) (fun b hb => (hor.os.lt hb).1)
          have hor1 := hor.more (B' := D) (by omega)
          have hwr := hbr0.trans (hbr.mono (by omega))
          have hDr : D ≤ wr.heap.size := by omega
          rw [← HOR.out] at hor1
          clear hor hov
          go_wp2_with (at_builtin; refine app_row _ rfl (.tmp 41) (.tmp 43) rfl D B i bc vs _ rfl hov1 (R, rn, rc) orw hor1 hap _ rfl rfl (by omega) hDr ?_; intro A7 c7 w7 ho7 hg7 hn7; have hb7 := below_own hwr hg7 hDr (fun b hb => (hov1.os.lt hb).1))
          go_round
          case rel => exact ⟨i + 1, A7, c7, by omega, by go_num, rfl, ⟨_, by rw [HST.out]; exact ho7⟩, hb7⟩
          case measure => simp only [intOf]; omega
    · obtain rfl : i = N := by omega
      have hrr := OR.reads ho
      have hL2 := HLL.out
      rw [List.take_of_length_le (by omega), ← HHL.out] at hrr
      clear hL2
      have hlc := HLC.out
      have hpk := hrr.len
      generalize hdL h = LL at *
      subst hpk
      have Y5 := Y1.below hb (by omega)
      have hso := sorted_any (LL.length : Int) B LL.length bc LL wr hrr (by omega) hlc
      have hwr := hw2.trans (hb.mono (by omega))
      have hDr : w.heap.size + 1 ≤ wr.heap.size := by omega
      have hlY := Y5.lt
      go_wp2_with (go_at_call 24; refine (sizeR_any _ _ _ _ (by omega)).mono ?_; rintro e w' ⟨rfl, rfl⟩)
      refine hso.mono ?_
      rintro e w5 ⟨A5, c5, rfl, ho5, hb5⟩
      have Y6 := Y5.after hb5
      have hw5 := hwr.trans (hb5.mono hwr.size)
      obtain ⟨y0, y1⟩ := Y6.cells2
      have f0 := Y6.frozen 0
      have f1 := Y6.frozen 1
      obtain ⟨q0, q1, q2, q3⟩ := fin_store (v := (LL.length : Int)) Y6 hw5 ho5 hDr
      have Q := Lib.hid (And.intro q0 q1)
      clear q0 q1 hso
      go_wp2
      exact bodyPost_ret (v := .tuple #[.agg #[.int .i64 (LL.length : Int), .slice A5 LL.length c5], .int .i64 0]) (by simp [results, Tryz.results154, go_sem, q2, q3]) rfl ⟨A5, LL.length, c5, rfl, Q.out.1, Q.out.2⟩
end Go.Proofs.YtnmcmologlgccaaGreat
namespace Go.Proofs.YtnmcmologlgccaaGreat
/-! repetitions taken out, place by place -/
section
variable {α : Type} [DecidableEq α]
theorem comp_snoc : ∀ (l : List α) (x : α), comp (l ++ [x]) = if l.getLast? = some x then comp l else comp l ++ [x]
  | [], x => by simp [comp]
  | [y], x => by
    by_cases e : y = x
    · subst e; simp [comp]
    · simp [comp, e]
  | y :: z :: r, x => by
    have ih := comp_snoc (z :: r) x
    have hlast : (y :: z :: r).getLast? = (z :: r).getLast? := by simp [List.getLast?_cons_cons]
    rw [hlast]
    show comp (y :: z :: (r ++ [x])) = _
    rw [comp]
    have ih' : comp (z :: (r ++ [x])) = if (z :: r).getLast? = some x then comp (z :: r) else comp (z :: r) ++ [x] := ih
    rw [ih']
    by_cases e : y = z
    · rw [if_pos e]
      conv => rhs; rw [comp, if_pos e]
    · rw [if_neg e]
      conv => rhs; rw [comp, if_neg e]
      split <;> simp
theorem comp_take_step {l : List α} {k : Nat} (h : k + 1 < l.length) : comp (l.take (k + 1 + 1)) = if l[k + 1] = l[k] then comp (l.take (k + 1)) else comp (l.take (k + 1)) ++ [l[k + 1]] := by
  have e : (l.take (k + 1)).getLast? = some l[k] := by
    rw [List.getLast?_eq_getElem?, List.length_take, Nat.min_eq_left (by omega), List.getElem?_take]
    simp
  rw [List.take_succ_eq_append_getElem h, comp_snoc, e]
  by_cases h2 : l[k + 1] = l[k]
  · rw [if_pos (by rw [h2]), if_pos h2]
  · rw [if_neg (by intro h3; injection h3 with h3; exact h2 h3.symm), if_neg h2]
theorem comp_len_le (l : List α) : (comp l).length ≤ l.length := by
  induction l using comp.induct with
  | case1 => simp [comp]
  | case2 y => simp [comp]
  | case3 y r ih => rw [comp, if_pos rfl]; simp at *; omega
  | case4 y z r hne ih => rw [comp, if_neg hne]; simp at *; omega
theorem comp_same : ∀ {l : List α}, (∀ (k : Nat) (h : k + 1 < l.length), l[k + 1] ≠ l[k]) → comp l = l
  | [], _ => rfl
  | [_], _ => rfl
  | y :: z :: r, h => by
    have h0 := h 0 (by simp)
    simp at h0
    rw [comp, if_neg (fun e => h0 e.symm), comp_same fun k hk => ?_]
    have := h (k + 1) (by simpa using hk)
    simpa using this
structure CompT (d z : List α) (k j : Nat) : Prop where
  len : z.length = d.length
  kj : k < j
  jd : j ≤ d.length
  front : z.take k = comp (d.take j)
  klen : (comp (d.take j)).length = k
  rest : ∀ i, j ≤ i + 1 → z[i]? = d[i]?
theorem CompT.start {d : List α} {k : Nat} (h : k + 1 < d.length) (hs : ∀ (i : Nat) (hi : i + 1 ≤ k) (hd : i + 1 < d.length), d[i + 1] ≠ d[i]) (he : d[k + 1] = d[k]) : CompT d d (k + 1) (k + 1 + 1) := by
  have e1 : comp (d.take (k + 1)) = d.take (k + 1) := comp_same fun i hi => by
    have hi' : i + 1 < k + 1 := by rw [List.length_take] at hi; omega
    rw [List.getElem_take, List.getElem_take]
    exact hs i (by omega) (by omega)
  have e2 : comp (d.take (k + 1 + 1)) = d.take (k + 1) := by rw [comp_take_step h, if_pos he, e1]
  exact ⟨rfl, by omega, by omega, e2.symm, by rw [e2, List.length_take]; omega, fun _ _ => rfl⟩
theorem CompT.same {d z : List α} {k j : Nat} (h : CompT d z k (j + 1)) (hj : j + 1 < d.length) (he : d[j + 1] = d[j]) : CompT d z k (j + 1 + 1) := by
  have e2 : comp (d.take (j + 1 + 1)) = comp (d.take (j + 1)) := by rw [comp_take_step hj, if_pos he]
  exact ⟨h.len, by have := h.kj; omega, by omega, by rw [e2]; exact h.front, by rw [e2]; exact h.klen, fun i hi => h.rest i (by omega)⟩
theorem CompT.new {d z : List α} {k j : Nat} (h : CompT d z k (j + 1)) (hj : j + 1 < d.length) (he : d[j + 1] ≠ d[j]) : CompT d (z.set k d[j + 1]) (k + 1) (j + 1 + 1) := by
  have e2 : comp (d.take (j + 1 + 1)) = comp (d.take (j + 1)) ++ [d[j + 1]] := by rw [comp_take_step hj, if_neg he]
  have hk := h.kj
  have hl := h.len
  refine ⟨by simpa using hl, by omega, by omega, ?_, by rw [e2, List.length_append, h.klen]; rfl, fun i hi => ?_⟩
  · rw [e2, ← h.front, List.take_succ_eq_append_getElem (by simp; omega), List.take_set_of_le (by omega)]
    simp
  · rw [List.getElem?_set_ne (by omega)]
    exact h.rest i (by omega)
theorem CompT.done {d z : List α} {k : Nat} (h : CompT d z k d.length) : z.take k = comp d ∧ (comp d).length = k := by
  have h1 := h.front
  have h2 := h.klen
  rw [List.take_length] at h1 h2
  exact ⟨h1, h2⟩
end
end Go.Proofs.YtnmcmologlgccaaGreat
