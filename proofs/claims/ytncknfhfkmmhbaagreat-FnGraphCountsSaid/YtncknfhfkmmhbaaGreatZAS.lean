/- Pairs of numbers in order, sets that may be added: the program's side. No condition beyond those stated. -/
import Derived.Test.YtncknfhfkmmhbaaGreatZAQ
import Derived.Test.YtncknfhfkmmhbaaGreatZAR
import Derived.Test.YtncknfhfkmmhbaaGreatZAF
import Derived.Deep.LoopGhost
import Derived.Deep.QuietTactic
import Derived.BigQuiet
set_option linter.unusedVariables false
set_option linter.unusedSimpArgs false
namespace Go.Proofs.YtncknfhfkmmhbaaGreat
open Go.RowKit

/-- how many elements of a list are in another -/
def comN (a b : List Int) : Nat := a.countP fun x => memB b x
theorem comN_step {a b : List Int} {i : Nat} (h : i < a.length) : comN (a.take (i + 1)) b = comN (a.take i) b + if memB b (nth a i) = true then 1 else 0 := by
  unfold comN
  rw [List.take_succ_eq_append_getElem h, List.countP_append, nth_get h]
  simp [List.countP_cons, List.countP_nil]
theorem comN_le (a b : List Int) : comN a b ≤ a.length := List.countP_le_length
set_option maxRecDepth 100000 in
set_option maxHeartbeats 1000000 in
theorem common_any (A B : Option Addr) (n m c d : Nat) (xs ys : List Int) (w : World) (ha : RI w A n xs) (hb : RI w B m ys) (hn : n ≤ 1000000) (hm : m ≤ 1000000) :
    Calls Tryz.prog 40 #[.slice A n c, .slice B m d] w (fun e w' => e = .returned (.int .i64 (comN xs ys : Nat)) ∧ w = w') := by
  have hla := Lib.hid ha.len
  go_enter Tryz.func40, Tryz.ntmps40
  go_wp2
  go_loop [5, 10] (fun cv iv => ∃ i : Nat, i ≤ n ∧ iv = .int .i64 i ∧ cv = .int .i64 (comN (xs.take i) ys : Nat)) (fun _ iv => n - (intOf iv).toNat)
  case atStart => exact ⟨0, Nat.zero_le _, rfl, by simp [comN]⟩
  case round =>
    obtain ⟨i, hi, rfl, rfl⟩ := hrel
    by_cases hlt : i < n
    · obtain ⟨ad, rfl, cx, hx64⟩ := ha.get hlt
      have hst := comN_step (a := xs) (b := ys) (i := i) (by rw [hla.out]; exact hlt)
      have hle := comN_le (xs.take i) ys
      rw [List.length_take, hla.out] at hle
      have hct := containsI_any B m d ys (nth xs i) w hb (by omega)
      generalize comN (xs.take i) ys = q at *
      generalize nth xs i = x at *
      cases hmb : memB ys x with
      | true =>
        rw [hmb] at hct hst
        have HST := Lib.hid hst
        clear hst hmb
        go_wp2_with (go_at_call 59; refine hct.mono ?_; rintro e w1 ⟨rfl, rfl⟩)
        go_round
        case rel => exact ⟨i + 1, by omega, by go_num, by rw [HST.out]; simp⟩
        case measure => simp [intOf]; omega
      | false =>
        rw [hmb] at hct hst
        have HST := Lib.hid hst
        clear hst hmb
        go_wp2_with (go_at_call 59; refine hct.mono ?_; rintro e w1 ⟨rfl, rfl⟩)
        go_round
        case rel => exact ⟨i + 1, by omega, by go_num, by rw [HST.out]; simp⟩
        case measure => simp [intOf]; omega
    · obtain rfl : i = n := by omega
      rw [List.take_of_length_le (by rw [hla.out]; exact Nat.le_refl _)]
      go_wp2
      go_ret
      exact ⟨rfl, rfl⟩
/-- pairs below n, in order -/
def pairsN (n : Nat) : List (Nat × Nat) := (List.range n).flatMap fun a => ((List.range n).filter fun b => decide (a < b)).map fun b => (a, b)
def toL (p : Nat × Nat) : List Int := [(p.1 : Int), (p.2 : Int)]
def nxt (n : Nat) (p : Nat × Nat) : Option (Nat × Nat) := if p.2 + 1 ≠ n then some (p.1, p.2 + 1) else if p.1 + 2 ≠ n then some (p.1 + 1, p.1 + 2) else none
def chkN (n : Nat) : Bool := (List.range (pairsN n).length).all fun j => match (pairsN n)[j]? with | some p => decide (p.1 < p.2) && decide (p.2 < n) && decide (nxt n p = (pairsN n)[j + 1]?) | none => false
theorem chk_all : [2, 3, 4, 5].all chkN = true := by decide
theorem chk_at {n j : Nat} {p : Nat × Nat} (h2 : 2 ≤ n) (h5 : n ≤ 5) (hp : (pairsN n)[j]? = some p) : p.1 < p.2 ∧ p.2 < n ∧ nxt n p = (pairsN n)[j + 1]? := by
  have hm : n ∈ [2, 3, 4, 5] := by
    have : n = 2 ∨ n = 3 ∨ n = 4 ∨ n = 5 := by omega
    rcases this with rfl | rfl | rfl | rfl <;> simp
  have h := List.all_eq_true.1 (List.all_eq_true.1 chk_all n hm) j (List.mem_range.2 (List.getElem?_eq_some_iff.1 hp).1)
  rw [hp] at h
  simp only [Bool.and_eq_true, decide_eq_true_eq] at h
  exact ⟨h.1.1, h.1.2, h.2⟩
theorem sizG_any (A : Option Addr) (n c : Nat) (w : World) (_ : n ≤ 9223372036854775807) : Calls Tryz.prog 32 #[.slice A n c] w fun e w' => e = .returned (.int .i64 n) ∧ w = w' := by
  go_enter Tryz.func32, Tryz.ntmps32
  go_wp2
  go_ret
  exact ⟨rfl, rfl⟩
/-- what comes behind a pair -/
def RetNx (w : World) (r : Option (Nat × Nat)) (e : Ending) (w' : World) : Prop := Below w.heap.size w w' ∧ match r with
  | some q => ∃ B d, e = .returned (.tuple #[.slice B 2 d, .bool true]) ∧ OI w' w.heap.size 2 B 2 d (toL q)
  | none => e = .returned (.tuple #[.slice none 0 0, .bool false])
set_option maxRecDepth 100000 in
set_option maxHeartbeats 4000000 in
theorem nextSubset_any (n : Nat) (p : Nat × Nat) (A : Option Addr) (c : Nat) (w : World) (ha : RI w A 2 (toL p)) (h1 : p.1 < p.2) (h2 : p.2 < n) (hn : n ≤ 32) :
    Calls Tryz.prog 57 #[.int .i64 n, .slice A 2 c] w (RetNx w (nxt n p)) := by
  obtain ⟨a, b⟩ := p
  simp only at h1 h2
  have hv := validSet_any A 2 c (toL (a, b)) (n : Int) w ha (by omega) (by omega) (by omega)
  have hrise : Rises (toL (a, b)) 0 ((n : Int) - 1) := by
    refine ⟨fun k hk => ?_, fun k hk => ?_⟩
    · have : k = 0 ∨ k = 1 := by simp [toL] at hk; omega
      rcases this with rfl | rfl <;> simp [toL, nth, List.getD] <;> omega
    · obtain rfl : k = 0 := by simp [toL] at hk; omega
      simp [toL, nth, List.getD]; omega
  rw [tB_yes hrise] at hv
  obtain ⟨ad, rfl, c0, -⟩ := ha.get (k := 0) (by omega)
  obtain ⟨ad', had, c1, -⟩ := ha.get (k := 1) (by omega)
  cases had
  have c0 : w.cell? ad = some (.int .i64 (a : Int)) := c0
  have c1 : w.cell? (ad.add 1) = some (.int .i64 (b : Int)) := c1
  have c1 : w.cell? ⟨ad.block, ad.off + 1, none⟩ = some (.int .i64 (b : Int)) := by simpa [Addr.add] using c1
  have hcl := clone_any (some ad) 2 c (toL (a, b)) w ha (by omega)
  have HCL := Lib.hid hcl
  obtain ⟨res, hres⟩ : ∃ res, res = nxt n (a, b) := ⟨_, rfl⟩
  rw [← hres]
  have hnx : res = if b + 1 ≠ n then some (a, b + 1) else if a + 2 ≠ n then some (a + 1, a + 2) else none := hres
  have HNX := Lib.hid hnx
  clear hres hnx ha hrise hcl
  go_enter Tryz.func57, Tryz.ntmps57
  go_wp2_with (first | (go_at_call 90; refine hv.mono ?_; rintro e w' ⟨rfl, rfl⟩) | (go_at_call 32; refine (sizG_any _ _ _ _ (by omega)).mono ?_; rintro e w' ⟨rfl, rfl⟩))
  go_loop [7] (fun iv => ∃ i : Int, iv = .int .i64 i ∧ (i = 1 ∨ (i = 0 ∧ b + 1 = n) ∨ (i = -1 ∧ b + 1 = n ∧ a + 2 = n))) (fun iv => (intOf iv + 1).toNat)
  case atStart => exact ⟨1, rfl, .inl rfl⟩
  case round =>
    obtain ⟨i, rfl, hi⟩ := hrel
    rcases hi with rfl | ⟨rfl, hbn⟩ | ⟨rfl, hbn, han⟩
    · by_cases hb1 : b + 1 = n
      · have e1 : ((b : Int) == (n : Int) - 2 + 1) = true := by simp; omega
        clear HCL
        go_wp2
        go_round
        case rel => exact ⟨0, by go_num, .inr (.inl ⟨rfl, hb1⟩)⟩
        case measure => simp [intOf]
      · have e1 : ((b : Int) == (n : Int) - 2 + 1) = false := by simp; omega
        have HN : Hid (res = some (a, b + 1)) := Lib.hid (by rw [HNX.out, if_pos hb1])
        clear HNX
        go_wp2_with (go_at_call 41; refine HCL.out.mono ?_; rintro e w2 ⟨D, dn, dc, rfl, ho, hb2⟩; have hdn := ho.len; obtain rfl : dn = 2 := by rw [← hdn]; rfl)
        go_loopw [9] (fun jv wr => ∃ (j : Int) (zs : List Int), jv = .int .i64 j ∧ ((j = 1 ∧ zs = [(a : Int), (b : Int)]) ∨ (j = 2 ∧ zs = [(a : Int), (b : Int) + 1])) ∧ OI wr w.heap.size 2 D 2 dc zs ∧ Below w.heap.size w wr) (fun jv _ => (2 - intOf jv).toNat)
        case atStart => exact ⟨1, _, rfl, .inl ⟨rfl, rfl⟩, ho, hb2⟩
        case round =>
          clear ho hb2
          obtain ⟨j, zs, rfl, hj, ho, hb2⟩ := hrel
          rcases hj with ⟨rfl, rfl⟩ | ⟨rfl, rfl⟩
          · obtain ⟨g, rfl, cz, fz, iz⟩ := ho.cell (k := 1) (by omega)
            have ho2 := ho.set 1 (u := (b : Int) + 1) ⟨by omega, by omega⟩
            have hgB := (ho.os.lt (k := g) rfl).1
            have hb3 := Below.setCell hb2 (p := ⟨g, 1, none⟩) hgB (.int .i64 ((b : Int) + 1))
            have c1' := below_cell hb2 c1
            clear ho hb2
            go_wp2
            go_roundw
            case rel => exact ⟨2, _, by go_num, .inr ⟨rfl, rfl⟩, ho2, hb3⟩
            case measure => simp [intOf]
          · go_wp2
            go_ret2
            rw [HN.out]
            exact ⟨hb2, D, dc, rfl, by simpa [toL] using ho⟩
    · by_cases ha2 : a + 2 = n
      · have e1 : ((a : Int) == (n : Int) - 2 + 0) = true := by simp; omega
        have e1' : ((a : Int) == (n : Int) - 2) = true := by simp; omega
        clear HCL
        go_wp2
        go_round
        case rel => exact ⟨-1, by go_num, .inr (.inr ⟨rfl, hbn, ha2⟩)⟩
        case measure => simp [intOf]
      · have e1 : ((a : Int) == (n : Int) - 2 + 0) = false := by simp; omega
        have e1' : ((a : Int) == (n : Int) - 2) = false := by simp; omega
        have HN : Hid (res = some (a + 1, a + 2)) := Lib.hid (by rw [HNX.out, if_neg (by omega), if_pos ha2])
        clear HNX
        go_wp2_with (go_at_call 41; refine HCL.out.mono ?_; rintro e w2 ⟨D, dn, dc, rfl, ho, hb2⟩; have hdn := ho.len; obtain rfl : dn = 2 := by rw [← hdn]; rfl)
        go_loopw [9] (fun jv wr => ∃ (j : Int) (zs : List Int), jv = .int .i64 j ∧ ((j = 0 ∧ zs = [(a : Int), (b : Int)]) ∨ (j = 1 ∧ zs = [(a : Int) + 1, (b : Int)]) ∨ (j = 2 ∧ zs = [(a : Int) + 1, (a : Int) + 2])) ∧ OI wr w.heap.size 2 D 2 dc zs ∧ Below w.heap.size w wr) (fun jv _ => (2 - intOf jv).toNat)
        case atStart => exact ⟨0, _, rfl, .inl ⟨rfl, rfl⟩, ho, hb2⟩
        case round =>
          clear ho hb2
          obtain ⟨j, zs, rfl, hj, ho, hb2⟩ := hrel
          have c0' := below_cell hb2 c0
          rcases hj with ⟨rfl, rfl⟩ | ⟨rfl, rfl⟩ | ⟨rfl, rfl⟩
          · obtain ⟨g, rfl, cz, fz, iz⟩ := ho.cell (k := 0) (by omega)
            have ho2 := ho.set 0 (u := (a : Int) + 1) ⟨by omega, by omega⟩
            have hgB := (ho.os.lt (k := g) rfl).1
            have hb3 := Below.setCell hb2 (p := ⟨g, 0, none⟩) hgB (.int .i64 ((a : Int) + 1))
            clear ho hb2
            go_wp2
            go_roundw
            case rel => exact ⟨1, _, by go_num, .inr (.inl ⟨rfl, rfl⟩), ho2, hb3⟩
            case measure => simp [intOf]
          · obtain ⟨g, rfl, cz, fz, iz⟩ := ho.cell (k := 1) (by omega)
            have ho2 := ho.set 1 (u := (a : Int) + 2) ⟨by omega, by omega⟩
            have hgB := (ho.os.lt (k := g) rfl).1
            have hb3 := Below.setCell hb2 (p := ⟨g, 1, none⟩) hgB (.int .i64 ((a : Int) + 2))
            have e5 : (a : Int) + 1 + 1 = (a : Int) + 2 := by omega
            clear ho hb2
            go_wp2
            go_roundw
            case rel => exact ⟨2, _, by go_num, .inr (.inr ⟨rfl, rfl⟩), ho2, hb3⟩
            case measure => simp [intOf]
          · go_wp2
            go_ret2
            rw [HN.out]
            exact ⟨hb2, D, dc, rfl, by simpa [toL] using ho⟩
    · have HN : Hid (res = none) := Lib.hid (by rw [HNX.out, if_neg (by omega), if_neg (by omega)])
      clear HNX HCL
      go_wp2
      go_ret2
      rw [HN.out]
      exact ⟨Below.refl _ _, rfl⟩
end Go.Proofs.YtncknfhfkmmhbaaGreat
/- How many cycles a permutation has on pairs: the program's side. No condition beyond those stated. -/
namespace Go.Proofs.YtncknfhfkmmhbaaGreat
open Go.RowKit Go.Maps

/-- the pair behind a pair -/
def nxtC (p : List Int) (q : Nat × Nat) : Nat × Nat := (min (nth p q.1).toNat (nth p q.2).toNat, max (nth p q.1).toNat (nth p q.2).toNat)
/-- a cycle is walked until a pair comes that has been seen -/
def walkP (p : List Int) : Nat → List (Nat × Nat) → Nat × Nat → Option (List (Nat × Nat))
  | 0, _, _ => none
  | f + 1, S, q => if q ∈ S then some S else walkP p f (q :: S) (nxtC p q)
def cycL (p : List Int) : List (Nat × Nat) → Nat → List (Nat × Nat) → Option (Nat × List (Nat × Nat))
  | [], c, S => some (c, S)
  | q :: qs, c, S => match walkP p 41 S q with
    | none => none
    | some S' => cycL p qs (if q ∈ S then c else c + 1) S'
def restB (n a b : Nat) : List (Nat × Nat) := ((List.range n).drop b).map fun b => (a, b)
def restA (n a : Nat) : List (Nat × Nat) := ((List.range n).drop a).flatMap fun a => restB n a (a + 1)
theorem rdrop {n x : Nat} (h : x < n) : (List.range n).drop x = x :: (List.range n).drop (x + 1) := by
  rw [List.drop_eq_getElem_cons (by simpa using h)]
  simp
theorem rdrop_all {n x : Nat} (h : n ≤ x) : (List.range n).drop x = [] := List.drop_eq_nil_of_le (by simpa using h)
theorem restA_step {n a : Nat} (h : a < n) : restA n a = restB n a (a + 1) ++ restA n (a + 1) := by unfold restA; rw [rdrop h, List.flatMap_cons]
theorem restA_end (n : Nat) : restA n n = [] := by unfold restA; rw [rdrop_all (Nat.le_refl _)]; rfl
theorem restB_step {n a b : Nat} (h : b < n) : restB n a b = (a, b) :: restB n a (b + 1) := by unfold restB; rw [rdrop h, List.map_cons]
theorem restB_end {n a b : Nat} (h : n ≤ b) : restB n a b = [] := by unfold restB; rw [rdrop_all h]; rfl
/-- a list of n numbers below n -/
def PrmN (n : Nat) (p : List Int) : Prop := p.length = n ∧ ∀ i, i < n → ∃ x : Nat, nth p i = (x : Int) ∧ x < n
set_option maxRecDepth 100000 in
set_option maxHeartbeats 8000000 in
theorem pairCycles_any (n : Nat) (A : Option Addr) (c0 : Nat) (p : List Int) (w : World) (ha : RI w A n p) (hn1 : 1 ≤ n) (hn : n ≤ 6) (hp : PrmN n p) (C : Nat) (SF : List (Nat × Nat)) (hc : cycL p (restA n 0) 0 [] = some (C, SF)) :
    Calls Tryz.prog 17 #[.slice A n c0] w (fun e w' => e = .returned (.int .i64 (C : Int)) ∧ C ≤ 60 ∧ Below w.heap.size w w') := by
  have hmm := @run_makeMap Tryz.prog
  have hb0 := below_alloc w (.map #[] 0)
  have s0 := SeenP.made w
  have HP := Lib.hid hp
  have HC := Lib.hid hc
  clear hp hc
  go_enter Tryz.func17, Tryz.ntmps17
  go_wp2_with (go_at_call 32; refine (sizG_any _ _ _ _ (by omega)).mono ?_; rintro e w' ⟨rfl, rfl⟩)
  clear hmm
  have HB0 := Lib.hid hb0
  generalize hg : w.heap.size = g at *
  go_loopw [3, 13] (fun cv av wr => ∃ (a c m : Nat) (S : List (Nat × Nat)), a ≤ n ∧ av = .int .i64 a ∧ cv = .int .i64 c ∧ Hid (cycL p (restA n a) c S = some (C, SF)) ∧ SeenP wr g m S ∧ c ≤ 10 * a ∧ m ≤ 400 * a ∧ Below g w wr) (fun _ av _ => n - (intOf av).toNat)
  case atStart => exact ⟨0, 0, 0, [], Nat.zero_le _, rfl, rfl, HC, s0, by omega, by omega, hb0⟩
  case round =>
    clear s0
    obtain ⟨a, c, m, S, hal, rfl, rfl, HCa, hs, hca, hma, hb⟩ := hrel
    by_cases hlt : a < n
    · have h0 : Hid (cycL p (restB n a (a + 1) ++ restA n (a + 1)) c S = some (C, SF)) := Lib.hid (by rw [← restA_step hlt]; exact HCa.out)
      generalize hW : wr = wo at *
      clear hW
      go_wp2_with (go_at_call 32; refine (sizG_any _ _ _ _ (by omega)).mono ?_; rintro e w' ⟨rfl, rfl⟩)
      go_loopw [3, 6] (fun cv bv wr => ∃ (b c m : Nat) (S : List (Nat × Nat)), a + 1 ≤ b ∧ b ≤ n ∧ bv = .int .i64 b ∧ cv = .int .i64 c ∧ Hid (cycL p (restB n a b ++ restA n (a + 1)) c S = some (C, SF)) ∧ SeenP wr g m S ∧ c ≤ 10 * a + b ∧ m ≤ 400 * a + 41 * b ∧ Below g w wr) (fun _ bv _ => n - (intOf bv).toNat)
      case atStart => exact ⟨a + 1, c, m, S, Nat.le_refl _, hlt, rfl, rfl, h0, hs, by omega, by omega, hb⟩
      case round =>
        clear hs h0
        obtain ⟨b, c1, m1, S1, hb1, hb2, rfl, rfl, hBc, hs, hcb, hmb, hbw⟩ := hrel
        by_cases hlb : b < n
        · have h1 := hBc.out
          rw [restB_step hlb, List.cons_append] at h1
          have h2 : ∃ S', walkP p 41 S1 (a, b) = some S' ∧ cycL p (restB n a (b + 1) ++ restA n (a + 1)) (if (a, b) ∈ S1 then c1 else c1 + 1) S' = some (C, SF) := by
            unfold cycL at h1
            split at h1
            · cases h1
            · rename_i S' e
              exact ⟨S', e, h1⟩
          obtain ⟨S', hw', hc'⟩ := h2
          have HWk := Lib.hid hw'
          clear hw' h1 hBc
          generalize hW : wr = wo2 at *
          clear hW
          have hbn := below_alloc wo2 (.cells #[.int .i64 a, .int .i64 b] 74)
          have R0 := Blk.new wo2 74 #[.int .i64 a, .int .i64 b]
          by_cases hin : (a, b) ∈ S1
          · simp only [hin, if_true, if_false] at hc'
            have HCk := Lib.hid hc'
            clear hc'
            go_wp2_with (first | (go_at_call 32; refine (sizG_any _ _ _ _ (by omega)).mono ?_; rintro e w' ⟨rfl, rfl⟩) | (at_lookup; refine wpList_seenP _ rfl _ _ rfl g m1 S1 rfl (hs.below hbn) (a, b) ⟨by omega, by omega⟩ rfl ?_; rw [decide_eq_true hin]))
            clear hin
            go_loopg [] 41 (fun k wr => ∃ (x y mc : Nat) (Sc : List (Nat × Nat)), x < n ∧ y < n ∧ Hid (walkP p k Sc (x, y) = some S') ∧ SeenP wr g mc Sc ∧ mc + k ≤ m1 + 41 ∧ Blk wr wo2.heap.size 74 #[.int .i64 x, .int .i64 y] ∧ Below g w wr ∧ wo2.heap.size < wr.heap.size)
            case atStart => exact ⟨a, b, m1, S1, by omega, hlb, HWk, hs.below hbn, by omega, R0, hbw.trans (hbn.mono (by have := hs.lt; omega)), by simp⟩
            case round =>
              clear R0 hbn HWk
              have hgb := hs.lt
              clear hs
              obtain ⟨x, y, mc, Sc, hx, hy, HW, hsc, hmc, R, hbr, hsz⟩ := hrel
              generalize hpb : wo2.heap.size = pb at *
              clear hpb
              obtain ⟨y0, y1⟩ := R.cells2
              have f0 := R.frozen 0
              have f1 := R.frozen 1
              have hW := HW.out
              cases gk with
              | zero => simp [walkP] at hW
              | succ gk =>
                unfold walkP at hW
                by_cases hq : (x, y) ∈ Sc
                · rw [if_pos hq] at hW
                  obtain rfl : Sc = S' := by injection hW
                  clear hW HW
                  go_wp2_with (at_lookup; refine wpList_seenP _ rfl _ _ rfl g mc Sc rfl hsc (x, y) ⟨by omega, by omega⟩ rfl ?_; rw [decide_eq_true hq])
                  go_round
                  case rel => exact ⟨b + 1, c1, mc, Sc, by omega, by omega, by push_cast; rfl, by push_cast; rfl, HCk, hsc, by omega, by omega, hbr⟩
                  case measure => simp only [intOf]; omega
                · rw [if_neg hq] at hW
                  have HW2 := Lib.hid hW
                  clear hW HW
                  obtain ⟨u, hu, hun⟩ := HP.out.2 x (by omega)
                  obtain ⟨v, hv, hvn⟩ := HP.out.2 y (by omega)
                  have e1 : nxtC p (x, y) = (min u v, max u v) := by unfold nxtC; simp only [hu, hv]; rfl
                  rw [e1] at HW2
                  obtain ⟨ad, rfl, y2, _⟩ := ha.get (k := x) (by omega)
                  obtain ⟨ad2, hae, y3, _⟩ := ha.get (k := y) (by omega)
                  obtain rfl : ad = ad2 := by injection hae
                  rw [hu] at y2
                  rw [hv] at y3
                  clear hae e1 hu hv
                  subst hg
                  have hml : mc < maxLen := by unfold maxLen; omega
                  go_wp2_with (first | (at_lookup; refine wpList_seenP _ rfl _ _ rfl _ mc Sc rfl hsc (x, y) ⟨by omega, by omega⟩ rfl ?_; rw [decide_eq_false hq]) | (at_mapUpdate; refine wpList_seeP _ rfl _ _ _ (.inl rfl) w.heap.size mc Sc rfl hsc hml (x, y) ⟨by omega, by omega⟩ rfl rfl ?_; intro w4 s4 g4; have hb4 := hbr.grown g4 (by omega) (fun k e => by injection e with e; omega); have R4 := R.grown g4 (by intro e; injection e with e; omega); have hz4 := Nat.lt_of_lt_of_le hsz g4.size; have z2 := below_cell hb4 y2; have z3 := below_cell hb4 y3; obtain ⟨z0, z1⟩ := R4.cells2; clear y0 y1 y2 y3 f0 f1))
                  go_quiet (fail)
                  rename_i nq
                  have R5 := R4.after (below_drewn w4 nq)
                  have s5 := s4.below (below_drewn w4 nq)
                  have hb5 := hb4.trans ((below_drewn w4 nq).mono (by omega))
                  have hz5 : pb < (w4.drewN nq).heap.size := hz4
                  generalize w4.drewN nq = w5 at *
                  clear z0 z1 z2 z3 s4 g4 hb4 R4 hz4
                  obtain ⟨z0, z1⟩ := R5.cells2
                  have f0 := R5.frozen 0
                  have f1 := R5.frozen 1
                  go_wp2
                  have em : min (u : Int) v = ((min u v : Nat) : Int) := by omega
                  have eM : max (u : Int) v = ((max u v : Nat) : Int) := by omega
                  rw [em, eM]
                  clear z0 z1 f0 f1 em eM
                  have hpg : some w.heap.size ≠ some pb := by intro e; injection e with e; omega
                  go_roundg gk
                  case rel => exact ⟨min u v, max u v, mc + 1, (x, y) :: Sc, by omega, by omega, HW2, (s5.kept (grown_set (g := pb) (p := 0) (u := .int .i64 ((min u v : Nat) : Int))) hpg).kept (grown_set (g := pb) (p := 1) (u := .int .i64 ((max u v : Nat) : Int))) hpg, by omega, by simpa using (R5.set_ 0 (.int .i64 ((min u v : Nat) : Int))).set_ 1 (.int .i64 ((max u v : Nat) : Int)), (hb5.setCell (p := ⟨pb, 0, none⟩) (Nat.le_of_lt hgb) _).setCell (p := ⟨pb, 1, none⟩) (Nat.le_of_lt hgb) _, by simpa using hz5⟩
                  case measure => omega
          · simp only [hin, if_true, if_false] at hc'
            have HCk := Lib.hid hc'
            clear hc'
            go_wp2_with (first | (go_at_call 32; refine (sizG_any _ _ _ _ (by omega)).mono ?_; rintro e w' ⟨rfl, rfl⟩) | (at_lookup; refine wpList_seenP _ rfl _ _ rfl g m1 S1 rfl (hs.below hbn) (a, b) ⟨by omega, by omega⟩ rfl ?_; rw [decide_eq_false hin]))
            clear hin
            go_loopg [] 41 (fun k wr => ∃ (x y mc : Nat) (Sc : List (Nat × Nat)), x < n ∧ y < n ∧ Hid (walkP p k Sc (x, y) = some S') ∧ SeenP wr g mc Sc ∧ mc + k ≤ m1 + 41 ∧ Blk wr wo2.heap.size 74 #[.int .i64 x, .int .i64 y] ∧ Below g w wr ∧ wo2.heap.size < wr.heap.size)
            case atStart => exact ⟨a, b, m1, S1, by omega, hlb, HWk, hs.below hbn, by omega, R0, hbw.trans (hbn.mono (by have := hs.lt; omega)), by simp⟩
            case round =>
              clear R0 hbn HWk
              have hgb := hs.lt
              clear hs
              obtain ⟨x, y, mc, Sc, hx, hy, HW, hsc, hmc, R, hbr, hsz⟩ := hrel
              generalize hpb : wo2.heap.size = pb at *
              clear hpb
              obtain ⟨y0, y1⟩ := R.cells2
              have f0 := R.frozen 0
              have f1 := R.frozen 1
              have hW := HW.out
              cases gk with
              | zero => simp [walkP] at hW
              | succ gk =>
                unfold walkP at hW
                by_cases hq : (x, y) ∈ Sc
                · rw [if_pos hq] at hW
                  obtain rfl : Sc = S' := by injection hW
                  clear hW HW
                  go_wp2_with (at_lookup; refine wpList_seenP _ rfl _ _ rfl g mc Sc rfl hsc (x, y) ⟨by omega, by omega⟩ rfl ?_; rw [decide_eq_true hq])
                  go_round
                  case rel => exact ⟨b + 1, c1 + 1, mc, Sc, by omega, by omega, by push_cast; rfl, by push_cast; rfl, HCk, hsc, by omega, by omega, hbr⟩
                  case measure => simp only [intOf]; omega
                · rw [if_neg hq] at hW
                  have HW2 := Lib.hid hW
                  clear hW HW
                  obtain ⟨u, hu, hun⟩ := HP.out.2 x (by omega)
                  obtain ⟨v, hv, hvn⟩ := HP.out.2 y (by omega)
                  have e1 : nxtC p (x, y) = (min u v, max u v) := by unfold nxtC; simp only [hu, hv]; rfl
                  rw [e1] at HW2
                  obtain ⟨ad, rfl, y2, _⟩ := ha.get (k := x) (by omega)
                  obtain ⟨ad2, hae, y3, _⟩ := ha.get (k := y) (by omega)
                  obtain rfl : ad = ad2 := by injection hae
                  rw [hu] at y2
                  rw [hv] at y3
                  clear hae e1 hu hv
                  subst hg
                  have hml : mc < maxLen := by unfold maxLen; omega
                  go_wp2_with (first | (at_lookup; refine wpList_seenP _ rfl _ _ rfl _ mc Sc rfl hsc (x, y) ⟨by omega, by omega⟩ rfl ?_; rw [decide_eq_false hq]) | (at_mapUpdate; refine wpList_seeP _ rfl _ _ _ (.inl rfl) w.heap.size mc Sc rfl hsc hml (x, y) ⟨by omega, by omega⟩ rfl rfl ?_; intro w4 s4 g4; have hb4 := hbr.grown g4 (by omega) (fun k e => by injection e with e; omega); have R4 := R.grown g4 (by intro e; injection e with e; omega); have hz4 := Nat.lt_of_lt_of_le hsz g4.size; have z2 := below_cell hb4 y2; have z3 := below_cell hb4 y3; obtain ⟨z0, z1⟩ := R4.cells2; clear y0 y1 y2 y3 f0 f1))
                  go_quiet (fail)
                  rename_i nq
                  have R5 := R4.after (below_drewn w4 nq)
                  have s5 := s4.below (below_drewn w4 nq)
                  have hb5 := hb4.trans ((below_drewn w4 nq).mono (by omega))
                  have hz5 : pb < (w4.drewN nq).heap.size := hz4
                  generalize w4.drewN nq = w5 at *
                  clear z0 z1 z2 z3 s4 g4 hb4 R4 hz4
                  obtain ⟨z0, z1⟩ := R5.cells2
                  have f0 := R5.frozen 0
                  have f1 := R5.frozen 1
                  go_wp2
                  have em : min (u : Int) v = ((min u v : Nat) : Int) := by omega
                  have eM : max (u : Int) v = ((max u v : Nat) : Int) := by omega
                  rw [em, eM]
                  clear z0 z1 f0 f1 em eM
                  have hpg : some w.heap.size ≠ some pb := by intro e; injection e with e; omega
                  go_roundg gk
                  case rel => exact ⟨min u v, max u v, mc + 1, (x, y) :: Sc, by omega, by omega, HW2, (s5.kept (grown_set (g := pb) (p := 0) (u := .int .i64 ((min u v : Nat) : Int))) hpg).kept (grown_set (g := pb) (p := 1) (u := .int .i64 ((max u v : Nat) : Int))) hpg, by omega, by simpa using (R5.set_ 0 (.int .i64 ((min u v : Nat) : Int))).set_ 1 (.int .i64 ((max u v : Nat) : Int)), (hb5.setCell (p := ⟨pb, 0, none⟩) (Nat.le_of_lt hgb) _).setCell (p := ⟨pb, 1, none⟩) (Nat.le_of_lt hgb) _, by simpa using hz5⟩
                  case measure => omega
        · have hE : Hid (cycL p (restA n (a + 1)) c1 S1 = some (C, SF)) := Lib.hid (by have := hBc.out; rw [restB_end (by omega)] at this; exact this)
          clear hBc
          go_wp2_with (go_at_call 32; refine (sizG_any _ _ _ _ (by omega)).mono ?_; rintro e w' ⟨rfl, rfl⟩)
          go_round
          case rel => exact ⟨a + 1, c1, m1, S1, by omega, rfl, rfl, hE, hs, by omega, by omega, hbw⟩
          case measure => simp only [intOf]; omega
    · obtain rfl : a = n := by omega
      have HE := HCa.out
      rw [restA_end] at HE
      have HE2 := Lib.hid (show c = C from by injection HE with HE; injection HE)
      clear HE
      go_wp2
      go_ret
      exact ⟨by rw [← HE2.out]; rfl, by rw [← HE2.out]; omega, by rw [hg]; exact hb⟩
end Go.Proofs.YtncknfhfkmmhbaaGreat
