/- All permutations, images of systems: the program's side. No condition beyond those stated. -/
import Derived.Test.YtncknfhfkmmhbaaGreatZAJ
import Derived.Test.YtncknfhfkmmhbaaGreatZAP
import Derived.Test.YtncknfhfkmmhbaaGreatZAH
import Derived.Test.YtncknfhfkmmhbaaGreatZAG
import Derived.Test.YtncknfhfkmmhbaaGreatZAC
import Derived.Test.YtncknfhfkmmhbaaGreatZAF
set_option linter.unusedVariables false
set_option linter.unusedSimpArgs false
namespace Go.Proofs.YtncknfhfkmmhbaaGreat
open Go.RowKit

/-- the first k permutations of degree n, by rank -/
def permK (n k : Nat) : List (List Int) := (List.range k).map fun r => unrP n (iotaP n) r
theorem permK_step (n k : Nat) : permK n (k + 1) = permK n k ++ [unrP n (iotaP n) k] := by simp [permK, List.range_succ]
theorem permK_len (n k : Nat) : (permK n k).length = k := by simp [permK]
set_option maxRecDepth 100000 in
set_option maxHeartbeats 2000000 in
theorem allPermutations_any (n : Nat) (w : World) (hn1 : 1 ≤ n) (hn : n ≤ 8) :
    Calls Tryz.prog 16 #[.int .i64 n] w (RetR w 33 2 (permK n (factN n))) := by
  have hfl := factN_le (n := n) (by omega)
  obtain ⟨F, hF⟩ : ∃ F, F = factN n := ⟨_, rfl⟩
  have HF := Lib.hid hF
  have hfc := factorial_any n w (by omega)
  rw [← hF] at hfl hfc ⊢
  clear hF
  go_enter Tryz.func16, Tryz.ntmps16
  go_wp2_with (go_at_call 18; refine hfc.mono ?_; rintro e w' ⟨rfl, rfl⟩)
  go_loopw [3, 9] (fun bl kv wr => ∃ (k : Nat) (B : Option Addr) (bc : Nat), k ≤ F ∧ kv = .int .i64 k ∧ bl = .slice B k bc ∧ OR wr w.heap.size 33 2 B k bc (permK n k) ∧ Below w.heap.size w wr) (fun _ kv _ => F - (intOf kv).toNat)
  case atStart => exact ⟨0, none, 0, Nat.zero_le _, rfl, rfl, by simpa [permK] using OR.nil_ _ _ (by decide), Below.refl _ _⟩
  case round =>
    obtain ⟨k, B, bc, hk, rfl, rfl, ho, hb⟩ := hrel
    by_cases hlt : k < F
    · have hun := unrankPermutation_any n k wr hn1 hn (by have := HF.out; omega)
      have hbs := hb.size
      obtain ⟨vs, hov⟩ := ho
      have HOV := Lib.hid hov
      have HST := Lib.hid (permK_step n k)
      generalize unrP n (iotaP n) k = u at *
      clear hov
      go_wp2_with (first | (go_at_call 31; refine hun.mono ?_; rintro e w3 ⟨R, rn, rc, rfl, hor, hb3⟩; have hap := HOV.out.apart_new (v := (R, rn, rc)) (fun b hb => (hor.os.lt hb).1); have hov3 := Lib.hid (HOV.out.below hb3); have hrow := Lib.hid (hor.more hbs); have hbw := Lib.hid (hb.trans (hb3.mono hb.size)); have hbs3 := hb3.size) | (at_builtin; refine app_row _ rfl (.tmp 18) (.tmp 20) rfl w.heap.size B k bc vs (permK n k) rfl hov3.out (R, rn, rc) u hrow.out hap _ rfl rfl (by omega) (by omega) ?_; intro A4 c4 w4 ho4 hg4 hn4; have hb4 := Lib.hid (below_own hbw.out hg4 (by omega) (fun b hb => (hov3.out.os.lt hb).1)); rw [← HST.out] at ho4))
      go_roundw
      case rel => exact ⟨k + 1, A4, c4, by omega, by go_num, rfl, ⟨_, ho4⟩, hb4.out⟩
      case measure => simp [intOf]; omega
    · obtain rfl : k = F := by omega
      go_wp2
      go_ret
      exact ⟨B, k, bc, rfl, ho, hb⟩
/-- the image of a set, of a system -/
def imgS (p s : List Int) : List Int := srt (s.map fun x => nth p x.toNat)
def sysI (p : List Int) (bs : List (List Int)) : List (List Int) := srtR (bs.map (imgS p))
theorem imgS_len (p s : List Int) : (imgS p s).length = s.length := by unfold imgS; rw [srt_len, List.length_map]
/-- sets of numbers below n, at most 32 each -/
def SysN (n : Nat) (bs : List (List Int)) : Prop := ∀ q, q < bs.length → (row bs q).length ≤ 32 ∧ ∀ i, i < (row bs q).length → ∃ x : Nat, nth (row bs q) i = (x : Int) ∧ x < n
theorem map_takeS (s : List Int) (f : Int → Int) {i : Nat} (h : i < s.length) : (s.take (i + 1)).map f = (s.take i).map f ++ [f (nth s i)] := by
  rw [List.take_succ_eq_append_getElem h, List.map_append, nth_get h]
  rfl
theorem mapR_takeS (s : List (List Int)) (f : List Int → List Int) {i : Nat} (h : i < s.length) : (s.take (i + 1)).map f = (s.take i).map f ++ [f (row s i)] := by
  rw [List.take_succ_eq_append_getElem h, List.map_append, row_get h]
  rfl
set_option maxRecDepth 100000 in
set_option maxHeartbeats 2000000 in
theorem image_any (P : Option Addr) (pn pc : Nat) (p : List Int) (A : Option Addr) (m c : Nat) (s : List Int) (w : World) (hP : RI w P pn p) (ha : RI w A m s) (hm : m ≤ 32) (hpn : pn ≤ 32) (hs : ∀ i, i < s.length → ∃ x : Nat, nth s i = (x : Int) ∧ x < pn) :
    Calls Tryz.prog 71 #[.slice P pn pc, .slice A m c] w (RetI w 2 (imgS p s)) := by
  have hla := Lib.hid ha.len
  have HS := Lib.hid hs
  clear hs
  go_enter Tryz.func71, Tryz.ntmps71
  go_wp2
  go_loopw [5, 10] (fun l iv wr => ∃ (i : Nat) (B : Option Addr) (bc : Nat), i ≤ m ∧ iv = .int .i64 i ∧ l = .slice B i bc ∧ OI wr w.heap.size 2 B i bc ((s.take i).map fun x => nth p x.toNat) ∧ Below w.heap.size w wr) (fun _ iv _ => m - (intOf iv).toNat)
  case atStart => exact ⟨0, none, 0, Nat.zero_le _, rfl, rfl, by simpa using OI.nil_ _ _ _, Below.refl _ _⟩
  case round =>
    obtain ⟨i, B, bc, hi, rfl, rfl, ho, hb⟩ := hrel
    by_cases hlt : i < m
    · obtain ⟨x, hx, hxn⟩ := HS.out i (by rw [hla.out]; exact hlt)
      obtain ⟨ad, rfl, cx, -⟩ := (ha.keep hb).get hlt
      obtain ⟨pd, rfl, cp, hp64⟩ := (hP.keep hb).get hxn
      have hst := map_takeS s (fun x => nth p x.toNat) (i := i) (by rw [hla.out]; exact hlt)
      rw [hx] at cx hst
      have HST := Lib.hid hst
      have hbs := hb.size
      clear hst
      rw [show ((x : Int)).toNat = x from by simp] at HST
      generalize nth p x = y at *
      go_wp2_with (at_builtin; refine app_int _ rfl (.tmp 14) (.tmp 19) rfl w.heap.size B i bc _ rfl ho y wr.heap.size rfl rfl hp64 (by omega) hbs ?_; intro A5 c5 w5 ho5 hg5 hf5; have hb5 := below_own hb hg5 hbs (fun b hb => (ho.os.lt hb).1); rw [← HST.out] at ho5)
      go_roundw
      case rel => exact ⟨i + 1, A5, c5, by omega, by go_num, rfl, ho5, hb5⟩
      case measure => simp [intOf]; omega
    · obtain rfl : i = m := by omega
      rw [List.take_of_length_le (by rw [hla.out]; exact Nat.le_refl _)] at ho
      have hso := sort_any _ _ B i bc _ wr ho (by omega)
      go_wp2_with fail
      refine hso.mono ?_
      rintro e w2 ⟨rfl, ho2, hg2⟩
      have hb2 := below_own hb hg2 hb.size (fun b hb => (ho.os.lt hb).1)
      go_wp2
      go_ret
      exact ⟨B, i, bc, rfl, ho2, hb2⟩
set_option maxRecDepth 100000 in
set_option maxHeartbeats 2000000 in
theorem systemImage_any (P : Option Addr) (pn pc : Nat) (p : List Int) (A : Option Addr) (m c : Nat) (bs : List (List Int)) (w : World) (hP : RI w P pn p) (ha : RR w A m bs) (hm : m ≤ 64) (hpn : pn ≤ 32) (hs : SysN pn bs) :
    Calls Tryz.prog 45 #[.slice P pn pc, .slice A m c] w (RetR w 33 2 (sysI p bs)) := by
  have hla := Lib.hid ha.len
  have HS := Lib.hid hs
  clear hs
  go_enter Tryz.func45, Tryz.ntmps45
  go_wp2
  go_loopw [5, 10] (fun l iv wr => ∃ (i : Nat) (B : Option Addr) (bc : Nat), i ≤ m ∧ iv = .int .i64 i ∧ l = .slice B i bc ∧ OR wr w.heap.size 33 2 B i bc ((bs.take i).map (imgS p)) ∧ Below w.heap.size w wr) (fun _ iv _ => m - (intOf iv).toNat)
  case atStart => exact ⟨0, none, 0, Nat.zero_le _, rfl, rfl, by simpa using OR.nil_ _ _ (by decide), Below.refl _ _⟩
  case round =>
    obtain ⟨i, B, bc, hi, rfl, rfl, ho, hb⟩ := hrel
    by_cases hlt : i < m
    · obtain ⟨ad, R0, rm, rcc, rfl, cr, hr1, hr2, hri⟩ := (ha.keep hb).get hlt
      have hrl := hri.len
      obtain ⟨h32, hent⟩ := HS.out i (by rw [hla.out]; exact hlt)
      have him := image_any P pn pc p R0 rm rcc (row bs i) wr (hP.keep hb) hri (by omega) hpn hent
      have HST := Lib.hid (mapR_takeS bs (imgS p) (i := i) (by rw [hla.out]; exact hlt))
      have hbs := hb.size
      obtain ⟨vs, hov⟩ := ho
      have HOV := Lib.hid hov
      generalize imgS p (row bs i) = u at *
      clear hov hent
      go_wp2_with (first | (go_at_call 71; refine him.mono ?_; rintro e w3 ⟨R, rn, rc, rfl, hor, hb3⟩; have hap := HOV.out.apart_new (v := (R, rn, rc)) (fun b hb => (hor.os.lt hb).1); have hov3 := Lib.hid (HOV.out.below hb3); have hrow := Lib.hid (hor.more hbs); have hbw := Lib.hid (hb.trans (hb3.mono hb.size)); have hbs3 := hb3.size) | (at_builtin; refine app_row _ rfl (.tmp 14) (.tmp 18) rfl w.heap.size B i bc vs ((bs.take i).map (imgS p)) rfl hov3.out (R, rn, rc) u hrow.out hap _ rfl rfl (by omega) (by omega) ?_; intro A4 c4 w4 ho4 hg4 hn4; have hb4 := Lib.hid (below_own hbw.out hg4 (by omega) (fun b hb => (hov3.out.os.lt hb).1)); rw [← HST.out] at ho4))
      go_roundw
      case rel => exact ⟨i + 1, A4, c4, by omega, by go_num, rfl, ⟨_, ho4⟩, hb4.out⟩
      case measure => simp [intOf]; omega
    · obtain rfl : i = m := by omega
      rw [List.take_of_length_le (by rw [hla.out]; exact Nat.le_refl _)] at ho
      have hso := sortOR_any _ B i bc _ wr ho (by omega)
      have hlt2 : ∀ b, blk B = some b → w.heap.size ≤ b := fun b hb => by obtain ⟨vs, hov⟩ := ho; exact (hov.os.lt hb).1
      go_wp2_with fail
      refine hso.mono ?_
      rintro e w2 ⟨rfl, ho2, hg2⟩
      have hb2 := below_own hb hg2 hb.size hlt2
      go_wp2
      go_ret
      exact ⟨B, i, bc, rfl, ho2, hb2⟩
end Go.Proofs.YtncknfhfkmmhbaaGreat
/- Systems compared, the least image of a system: the program's side. No condition beyond those stated. -/
namespace Go.Proofs.YtncknfhfkmmhbaaGreat
open Go.RowKit

/-- systems compared by the first block in which they differ -/
def cmpS : List (List Int) → List (List Int) → Int
  | [], [] => 0
  | [], _ :: _ => -1
  | _ :: _, [] => 1
  | x :: xs, y :: ys => if cmpL x y = 0 then cmpS xs ys else cmpL x y
theorem cmpS_step {xs ys : List (List Int)} {k : Nat} (h1 : k < xs.length) (h2 : k < ys.length) : cmpS (xs.drop k) (ys.drop k) = if cmpL (row xs k) (row ys k) = 0 then cmpS (xs.drop (k + 1)) (ys.drop (k + 1)) else cmpL (row xs k) (row ys k) := by
  rw [List.drop_eq_getElem_cons h1, List.drop_eq_getElem_cons h2, row_get h1, row_get h2]
  rfl
theorem cmpS_more {xs ys : List (List Int)} {k : Nat} (h1 : k < xs.length) (h2 : ys.length ≤ k) : cmpS (xs.drop k) (ys.drop k) = 1 := by
  rw [List.drop_eq_getElem_cons h1, List.drop_eq_nil_of_le h2]
  rfl
theorem cmpS_end {xs ys : List (List Int)} {k : Nat} (h1 : xs.length ≤ k) : cmpS (xs.drop k) (ys.drop k) = if k < ys.length then -1 else 0 := by
  rw [List.drop_eq_nil_of_le h1]
  split
  · rename_i h; rw [List.drop_eq_getElem_cons h]; rfl
  · rename_i h; rw [List.drop_eq_nil_of_le (by omega)]; rfl
set_option maxRecDepth 100000 in
set_option maxHeartbeats 1000000 in
theorem compareFunc_any (A B : Option Addr) (n m c d : Nat) (xs ys : List (List Int)) (w : World) (ha : RR w A n xs) (hb : RR w B m ys) (hn : n ≤ 9223372036854775807) (hm : m ≤ 9223372036854775807) :
    Calls Tryz.prog 47 #[.slice A n c, .slice B m d, .func (.func 25) #[] #[]] w (fun e w' => e = .returned (.int .i64 (cmpS xs ys)) ∧ w = w') := by
  have hla := ha.len
  have hlb := hb.len
  have eg : ∀ (args : Array Value) (w : World), (callFunc 25 args).run Tryz.prog w = .ok (.enter 25 args) w := fun _ _ => by kernel_rfl
  obtain ⟨R, hR⟩ : ∃ R, R = cmpS xs ys := ⟨_, rfl⟩
  rw [← hR]
  have HR := Lib.hid (show cmpS (xs.drop 0) (ys.drop 0) = R from by rw [hR]; rfl)
  have HLA := Lib.hid hla
  have HLB := Lib.hid hlb
  clear hR hla hlb
  go_enter Tryz.func47, Tryz.ntmps47
  go_wp2
  go_loop [13] (fun iv => ∃ k : Nat, k ≤ n ∧ k ≤ m ∧ iv = .int .i64 k ∧ Hid (cmpS (xs.drop k) (ys.drop k) = R)) (fun iv => n - (intOf iv).toNat)
  case atStart => exact ⟨0, Nat.zero_le _, Nat.zero_le _, rfl, HR⟩
  case round =>
    clear HR
    obtain ⟨k, hk, hkm, rfl, HK⟩ := hrel
    by_cases hlt : k < n
    · obtain ⟨a, A1, n1, c1, rfl, hca, hn1, hc1, ha1⟩ := ha.get hlt
      by_cases hlm : k < m
      · obtain ⟨b, B1, m1, d1, rfl, hcb, hm1, hd1, hb1⟩ := hb.get hlm
        have hcm := slicesCompare_any A1 B1 n1 m1 c1 d1 (row xs k) (row ys k) w ha1 hb1 (by omega) (by omega)
        have hst := cmpS_step (xs := xs) (ys := ys) (k := k) (by rw [HLA.out]; exact hlt) (by rw [HLB.out]; exact hlm)
        rw [HK.out] at hst
        have hbd := cmpL_bd (row xs k) (row ys k)
        generalize cmpL (row xs k) (row ys k) = z at *
        by_cases hz : z = 0
        · have HK2 : Hid (cmpS (xs.drop (k + 1)) (ys.drop (k + 1)) = R) := Lib.hid (by rw [hst, if_pos hz])
          have hz' : (z != 0) = false := by simp [hz]
          clear hst HK
          go_wp2_with (go_at_fn 25; refine hcm.mono ?_; rintro e w1 ⟨rfl, rfl⟩)
          go_round
          case rel => exact ⟨k + 1, by omega, by omega, by go_num, HK2⟩
          case measure => simp [intOf]; omega
        · have HK2 : Hid (z = R) := Lib.hid (by rw [hst, if_neg hz])
          have hz' : (z != 0) = true := by simp [hz]
          clear hst HK
          go_wp2_with (go_at_fn 25; refine hcm.mono ?_; rintro e w1 ⟨rfl, rfl⟩)
          go_ret
          exact ⟨by rw [← HK2.out]; rfl, rfl⟩
      · have HE := Lib.hid (show 1 = R from by rw [← HK.out, cmpS_more (by rw [HLA.out]; exact hlt) (by rw [HLB.out]; omega)])
        clear HK
        go_wp2
        go_ret
        exact ⟨by rw [← HE.out]; rfl, rfl⟩
    · obtain rfl : k = n := by omega
      have he := cmpS_end (xs := xs) (ys := ys) (k := k) (by rw [HLA.out]; exact Nat.le_refl _)
      rw [HK.out, HLB.out] at he
      by_cases hlm : k < m
      · have HE := Lib.hid (show -1 = R from by rw [he, if_pos hlm])
        clear HK he
        go_wp2
        go_ret
        exact ⟨by rw [← HE.out]; rfl, rfl⟩
      · have HE := Lib.hid (show 0 = R from by rw [he, if_neg hlm])
        clear HK he
        go_wp2
        go_ret
        exact ⟨by rw [← HE.out]; rfl, rfl⟩
theorem compareSystems_any (A B : Option Addr) (n m c d : Nat) (xs ys : List (List Int)) (w : World) (ha : RR w A n xs) (hb : RR w B m ys) (hn : n ≤ 9223372036854775807) (hm : m ≤ 9223372036854775807) :
    Calls Tryz.prog 28 #[.slice A n c, .slice B m d] w (fun e w' => e = .returned (.int .i64 (cmpS xs ys)) ∧ w = w') := by
  go_enter Tryz.func28, Tryz.ntmps28
  go_wp2_with (go_at_call 47; refine (compareFunc_any A B n m c d xs ys _ ha hb hn hm).mono ?_; rintro e w1 ⟨rfl, rfl⟩)
  go_ret
  exact ⟨rfl, rfl⟩
/-- the least of a system and its images under the first k permutations -/
def leastS (ps bs : List (List Int)) : Nat → List (List Int)
  | 0 => bs
  | k + 1 => if cmpS (sysI (row ps k) bs) (leastS ps bs k) < 0 then sysI (row ps k) bs else leastS ps bs k
theorem cells_leS {l : List (List Int)} {k : Nat} (h : ∀ r ∈ l, r.length ≤ k) : cells l ≤ l.length * k := by
  induction l with
  | nil => simp [cells]
  | cons r l ih =>
    have h1 := ih fun x hx => h x (List.mem_cons_of_mem _ hx)
    have h2 := h r List.mem_cons_self
    simp only [cells, List.map_cons, List.sum_cons, List.length_cons, Nat.succ_mul] at *
    omega
theorem sysI_rows {p : List Int} {bs : List (List Int)} (h : ∀ r ∈ bs, r.length ≤ 32) : (sysI p bs).length = bs.length ∧ ∀ r ∈ sysI p bs, r.length ≤ 32 := by
  refine ⟨by unfold sysI; rw [srtR_len, List.length_map], fun r hr => ?_⟩
  have := (srtR_perm _).mem_iff.1 hr
  obtain ⟨s, hs, rfl⟩ := List.mem_map.1 this
  rw [imgS_len]
  exact h s hs
theorem leastS_rows {ps bs : List (List Int)} (h : ∀ r ∈ bs, r.length ≤ 32) (k : Nat) : (leastS ps bs k).length = bs.length ∧ ∀ r ∈ leastS ps bs k, r.length ≤ 32 := by
  induction k with
  | zero => exact ⟨rfl, h⟩
  | succ k ih => unfold leastS; split; exact sysI_rows h; exact ih
theorem SysN.rows {n : Nat} {bs : List (List Int)} (h : SysN n bs) : ∀ r ∈ bs, r.length ≤ 32 := fun r hr => by
  obtain ⟨i, hi, rfl⟩ := List.mem_iff_getElem.1 hr
  have := (h i hi).1
  rwa [row_get hi] at this
set_option maxRecDepth 100000 in
set_option maxHeartbeats 2000000 in
theorem leastSystem_any (n : Nat) (A : Option Addr) (m c : Nat) (bs : List (List Int)) (w : World) (ha : RR w A m bs) (hm : m ≤ 64) (hn1 : 1 ≤ n) (hn : n ≤ 8) (hs : SysN n bs) (hpl : ∀ r, r < factN n → (row (permK n (factN n)) r).length = n) :
    Calls Tryz.prog 26 #[.int .i64 n, .slice A m c] w (RetR w 33 2 (leastS (permK n (factN n)) bs (factN n))) := by
  have hla := ha.len
  have HS := Lib.hid hs
  have HP := Lib.hid hpl
  have HRW := Lib.hid hs.rows
  clear hs hpl
  have hfl := factN_le (n := n) (by omega)
  have hap := allPermutations_any n w hn1 hn
  obtain ⟨F, hF⟩ : ∃ F, F = factN n := ⟨_, rfl⟩
  rw [← hF] at hap hfl HP ⊢
  clear hF
  go_enter Tryz.func26, Tryz.ntmps26
  go_wp2_with fail
  refine hap.mono ?_
  rintro e w1 ⟨PA, pn, pc, rfl, hop, hb1⟩
  obtain rfl : pn = F := by rw [← hop.len, permK_len]
  have hrp := hop.reads
  have HLP := Lib.hid (permK_len n pn)
  generalize permK n pn = ps at *
  have ha1 := ha.keep hb1
  have HW := Lib.hid hb1
  clear hap hop hb1 ha
  go_wp2
  go_loopw [5, 13] (fun lv iv wr => ∃ (k : Nat) (B : Option Addr) (b bc : Nat), k ≤ pn ∧ iv = .int .i64 k ∧ lv = .slice B b bc ∧ RR wr B b (leastS ps bs k) ∧ Below w1.heap.size w1 wr) (fun _ iv _ => pn - (intOf iv).toNat)
  case atStart => exact ⟨0, A, m, c, Nat.zero_le _, rfl, rfl, ha1, Below.refl _ _⟩
  case round =>
    obtain ⟨k, B, b, bc, hk, rfl, rfl, hr, hb⟩ := hrel
    have hlr := leastS_rows (ps := ps) HRW.out k
    have hbl := hr.len
    rw [hlr.1, hla] at hbl
    subst hbl
    by_cases hlt : k < pn
    · obtain ⟨ad, P, qn, qc, rfl, cp, hq1, hq2, hri⟩ := (hrp.keep hb).get hlt
      have hql := hri.len
      rw [HP.out k hlt] at hql
      subst hql
      have hsi := systemImage_any P n qc (row ps k) A m c bs wr hri (ha1.keep hb) hm (by omega) HS.out
      clear hlr
      go_wp2_with fail
      refine hsi.mono ?_
      rintro e w3 ⟨S, sn, sc, rfl, hos, hb3⟩
      have hbw := hb.trans (hb3.mono hb.size)
      have hsl := hos.len
      rw [(sysI_rows HRW.out).1, hla] at hsl
      subst hsl
      have hr3 := hr.keep hb3
      have hcm := compareSystems_any S B m m sc bc _ _ w3 hos.reads hr3 (by omega) (by omega)
      have hrs := hos.reads
      by_cases hc : cmpS (sysI (row ps k) bs) (leastS ps bs k) < 0
      · have HN := Lib.hid (show leastS ps bs (k + 1) = sysI (row ps k) bs by rw [leastS, if_pos hc])
        rw [← HN.out] at hrs
        generalize cmpS (sysI (row ps k) bs) (leastS ps bs k) = z at *
        clear hsi hos
        go_wp2_with fail
        refine hcm.mono ?_
        rintro e w4 ⟨rfl, rfl⟩
        go_wp2
        go_roundw
        case rel => exact ⟨k + 1, S, m, sc, by omega, by go_num, rfl, hrs, hbw⟩
        case measure => simp [intOf]; omega
      · have HN := Lib.hid (show leastS ps bs (k + 1) = leastS ps bs k by rw [leastS, if_neg hc])
        rw [← HN.out] at hr3
        generalize hz : cmpS (sysI (row ps k) bs) (leastS ps bs k) = z at *
        clear hsi hos hz
        go_wp2_with fail
        refine hcm.mono ?_
        rintro e w4 ⟨rfl, rfl⟩
        go_wp2
        go_roundw
        case rel => exact ⟨k + 1, B, m, bc, by omega, by go_num, rfl, hr3, hbw⟩
        case measure => simp [intOf]; omega
    · obtain rfl : k = pn := by omega
      have hcl : cells (leastS ps bs k) ≤ 1099511627776 := by
        have := cells_leS hlr.2
        rw [hlr.1, hla] at this
        omega
      have hcp := copyLists_any B m bc _ wr hr (by omega) hcl
      have hw2 := HW.out.trans (hb.mono HW.out.size)
      go_wp2_with fail
      refine hcp.mono ?_
      rintro e w3 ⟨D, dn, dc, rfl, hod, hb3⟩
      go_wp2
      go_ret
      exact ⟨D, dn, dc, rfl, hod.more hw2.size, hw2.trans (hb3.mono hw2.size)⟩
end Go.Proofs.YtncknfhfkmmhbaaGreat
/- slices.Contains at numbers. No condition beyond those stated. -/
namespace Go.Proofs.YtncknfhfkmmhbaaGreat
open Go.RowKit

def memB (l : List Int) (x : Int) : Bool := l.any fun y => y == x
theorem memB_true {l : List Int} {x : Int} : memB l x = true ↔ x ∈ l := by simp [memB]
theorem memB_false {l : List Int} {x : Int} : memB l x = false ↔ x ∉ l := by rw [← memB_true, Bool.not_eq_true]
set_option maxHeartbeats 400000 in
theorem indexI_any (A : Option Addr) (n c : Nat) (zs : List Int) (x : Int) (w : World) (ha : RI w A n zs) (hn : n ≤ 9223372036854775807) :
    Calls Tryz.prog 91 #[.slice A n c, .int .i64 x] w fun e w' => ∃ r : Int, e = .returned (.int .i64 r) ∧ -1 ≤ r ∧ r ≤ 9223372036854775807 ∧ (0 ≤ r ↔ x ∈ zs) ∧ w = w' := by
  have hla := Lib.hid ha.len
  go_enter Tryz.func91, Tryz.ntmps91
  go_wp2
  go_loopw [5, 8] (fun _ i wr => ∃ k : Nat, k ≤ n ∧ i = .int .i64 k ∧ w = wr ∧ ∀ j, j < k → nth zs j ≠ x) (fun _ i _ => n - (intOf i).toNat)
  case atStart => exact ⟨0, Nat.zero_le _, rfl, by trivial, fun x h => absurd h (by omega)⟩
  case round =>
    obtain ⟨k, hk, rfl, rfl, hno⟩ := hrel
    by_cases hlt : k < n
    · obtain ⟨a, rfl, hca, hia⟩ := ha.get hlt
      by_cases hq : nth zs k = x
      · rw [hq] at hca
        have H := Lib.hid (show x ∈ zs by rw [← hq, nth_get (by rw [hla.out]; exact hlt)]; exact List.getElem_mem _)
        clear hno hq hia
        go_wp2
        go_ret
        exact ⟨k, rfl, by omega, by omega, ⟨fun _ => H.out, fun _ => by omega⟩, rfl⟩
      · have hqb : (x == nth zs k) = false := by simp; exact fun e => hq e.symm
        have H := Lib.hid (show ∀ j, j < k + 1 → nth zs j ≠ x from fun j hx => by
          rcases Nat.lt_succ_iff_lt_or_eq.1 hx with h | h
          · exact hno j h
          · rw [h]; exact hq)
        clear hno hq
        generalize nth zs k = q at *
        go_wp2
        go_roundw
        case rel => exact ⟨k + 1, by omega, by go_num, by trivial, H.out⟩
        case measure => simp [intOf]; omega
    · obtain rfl : k = n := by omega
      have H := Lib.hid hno
      clear hno
      go_wp2
      go_ret
      refine ⟨-1, rfl, by omega, by omega, ⟨fun h => by omega, fun h => ?_⟩, rfl⟩
      obtain ⟨j, hj, rfl⟩ := List.mem_iff_getElem.1 h
      exact absurd (nth_get hj) (H.out j (by rw [← hla.out]; exact hj))
theorem containsI_any (A : Option Addr) (n c : Nat) (zs : List Int) (x : Int) (w : World) (ha : RI w A n zs) (hn : n ≤ 9223372036854775807) :
    Calls Tryz.prog 59 #[.slice A n c, .int .i64 x] w fun e w' => e = .returned (.bool (memB zs x)) ∧ w = w' := by
  go_enter Tryz.func59, Tryz.ntmps59
  go_wp2_with fail
  refine (indexI_any A n c zs x _ ha hn).mono ?_
  rintro e w1 ⟨r, rfl, h1, h2, h3, rfl⟩
  have H := Lib.hid h3
  clear h3
  go_wp2
  go_ret
  refine ⟨?_, rfl⟩
  by_cases h : 0 ≤ r
  · rw [memB_true.2 (H.out.1 h)]; simp [h]
  · rw [memB_false.2 (fun hh => h (H.out.2 hh))]; simp [h]
end Go.Proofs.YtncknfhfkmmhbaaGreat
