/- The table of differences: the program's side. No condition beyond those stated. -/
import Derived.Test.YtnfddnideaakgaaZAN
import Derived.Test.YtnfddnideaakgaaZAH
import Derived.Shelf.SlGeneric
import Derived.Shelf.SortM.Plain
import Derived.Shelf.SortM.SortNone
import Derived.Ground.SlgmProg
import Derived.Test.YtnfddnideaakgaaProg
import Derived.Test.YtnfddnideaakgaaZAD
import Derived.Test.YtnfddnideaakgaaZAA
import Derived.Sort.OwnSortedInts
import Derived.Test.YtnfddnideaakgaaZAE
set_option linter.unusedVariables false
set_option linter.unusedSimpArgs false
namespace Go.Proofs.Ytnfddnideaakgaa
open Go.RowKit

/-- sets of residues -/
def ResS (n : Nat) (sets : List (List Int)) : Prop := ∀ q, q < sets.length → (row sets q).length ≤ 32 ∧ ∀ i, i < (row sets q).length → ∃ x : Nat, nth (row sets q) i = (x : Int) ∧ x < n
theorem cntT_nil (n : Nat) : cntT n [] = List.replicate n 0 := by
  unfold cntT
  refine List.ext_getElem (by simp) fun i h1 h2 => by simp
theorem mod_pos {n x y : Nat} (hx : x < n) (hy : y < n) : ∃ d : Nat, ((x : Int) - y + n) % n = (d : Int) ∧ d < n := by
  have h1 := Int.emod_nonneg ((x : Int) - y + n) (show (n : Int) ≠ 0 by omega)
  have h2 := Int.emod_lt_of_pos ((x : Int) - y + n) (show (0 : Int) < n by omega)
  obtain ⟨d, hd⟩ := Int.eq_ofNat_of_zero_le h1
  exact ⟨d, hd, by omega⟩
set_option maxRecDepth 100000 in
set_option maxHeartbeats 8000000 in
theorem diffTable_any (n : Nat) (A : Option Addr) (m c : Nat) (sets : List (List Int)) (w : World) (ha : RR w A m sets) (hm : m ≤ 8) (hn1 : 1 ≤ n) (hn : n ≤ 32) (hR : ResS n sets) :
    Calls Try.prog 29 #[.int .i64 n, .slice A m c] w (RetI w 2 (cntT n (difF n sets sets.length))) := by
  have hla := Lib.hid ha.len
  have HR := Lib.hid hR
  clear hR
  have hmk := run_make_row' (P := Try.prog) 23 2 (.int .i64 0) 8 Try.underlying23 int_info rfl .i64 .i64 n (by omega) (by omega)
  have ho0 := OI.made w w.heap.size 2 n (Nat.le_refl _) (by omega)
  have hb0 := below_alloc w (.cells (madeCells #[.int .i64 0] n) 2)
  rw [← cntT_nil] at ho0
  go_enter Try.func29, Try.ntmps29
  go_wp2
  clear hmk
  generalize hgd : w.heap.size = gd at *
  have HG := Lib.hid hgd
  go_loopw [16] (fun iv wr => ∃ q : Nat, q ≤ m ∧ iv = .int .i64 q ∧ OI wr gd 2 (some ⟨gd, 0, none⟩) n n (cntT n (difF n sets q)) ∧ Below gd w wr) (fun iv _ => m - (intOf iv).toNat)
  case atStart => exact ⟨0, Nat.zero_le _, rfl, by simpa [difF] using ho0, hb0⟩
  case round =>
    clear ho0 hb0
    obtain ⟨q, hq, rfl, ho, hb⟩ := hrel
    by_cases hlt : q < m
    · have hql : q < sets.length := by rw [hla.out]; exact hlt
      obtain ⟨hm32, hent⟩ := HR.out q hql
      obtain ⟨ad, R, k, rc, rfl, cr0, hk1, hk2, hri0⟩ := ha.get hlt
      have hw0 : Below w.heap.size w wr := by rw [HG.out]; exact hb
      have cr := below_cell hw0 cr0
      have hlr := hri0.len
      have HM := Lib.hid hent
      have HS := Lib.hid (difF_step (n := n) hql)
      have HLF := Lib.hid (difF_len (n := n) (sets := sets) (fun q hq => (HR.out q hq).1) q (by omega))
      clear hent
      generalize hs : row sets q = s at *
      generalize hL : difF n sets q = L at *
      clear hs hL
      go_wp2
      clear cr hw0
      go_loopw [22] (fun iv wr => ∃ i : Nat, i ≤ k ∧ iv = .int .i64 i ∧ OI wr gd 2 (some ⟨gd, 0, none⟩) n n (cntT n (L ++ difS n s i)) ∧ Below gd w wr) (fun iv _ => k - (intOf iv).toNat)
      case atStart => exact ⟨0, Nat.zero_le _, rfl, by simpa [difS] using ho, hb⟩
      case round =>
        clear ho hb
        obtain ⟨i, hi, rfl, ho, hb⟩ := hrel
        have hw0 : Below w.heap.size w wr := by rw [HG.out]; exact hb
        have hri := hri0.keep hw0
        by_cases hli : i < k
        · obtain ⟨x, hx, hxn⟩ := HM.out i (by omega)
          obtain ⟨ra, rfl, ck, -⟩ := hri.get (k := i) hli
          rw [hx] at ck
          have HS2 := Lib.hid (difS_step (n := n) (s := s) (i := i) (by omega))
          have HL2 := Lib.hid (difS_len (n := n) (s := s) hm32 i (by omega))
          rw [hx] at HS2
          go_wp2
          clear ck hw0 hri
          go_loopw [28] (fun iv wr => ∃ j : Nat, j ≤ k ∧ iv = .int .i64 j ∧ OI wr gd 2 (some ⟨gd, 0, none⟩) n n (cntT n (L ++ difS n s i ++ difA n (x : Int) (s.take j))) ∧ Below gd w wr) (fun iv _ => k - (intOf iv).toNat)
          case atStart => exact ⟨0, Nat.zero_le _, rfl, by simpa [difA] using ho, hb⟩
          case round =>
            clear ho hb
            obtain ⟨j, hj, rfl, ho, hb⟩ := hrel
            have hw0 : Below w.heap.size w wr := by rw [HG.out]; exact hb
            have hri := hri0.keep hw0
            by_cases hlj : j < k
            · obtain ⟨y, hy, hyn⟩ := HM.out j (by omega)
              obtain ⟨ra', hra', ck, -⟩ := hri.get (k := j) hlj
              cases hra'
              rw [hy] at ck
              have hst := difA_step (n := n) (a := (x : Int)) (s := s) (j := j) (by omega)
              rw [hy] at hst
              have hLA := difA_len n (x : Int) (s.take j)
              rw [List.length_take] at hLA
              by_cases e : x = y
              · have hne : ((x : Int) != (y : Int)) = false := by simp [e]
                rw [hne] at hst
                have HST := Lib.hid (show difA n (x : Int) (s.take (j + 1)) = difA n (x : Int) (s.take j) by simpa using hst)
                clear hst e
                go_wp2
                go_roundw
                case rel => exact ⟨j + 1, by omega, by go_num, by rw [HST.out]; exact ho, hb⟩
                case measure => simp [intOf]; omega
              · have hne : ((x : Int) != (y : Int)) = true := by simp; omega
                rw [hne] at hst
                obtain ⟨d, hd, hdn⟩ := mod_pos hxn hyn
                rw [hd] at hst
                have HST := Lib.hid (show difA n (x : Int) (s.take (j + 1)) = difA n (x : Int) (s.take j) ++ [(d : Int)] by simpa using hst)
                clear hst e
                obtain ⟨g0, hg0, cz, fz, iz⟩ := ho.cell hdn
                cases hg0
                have hbd := cntT_bd (L := L ++ difS n s i ++ difA n (x : Int) (s.take j)) hdn
                have hll : (L ++ difS n s i ++ difA n (x : Int) (s.take j)).length ≤ 100000 := by
                  have := HLF.out
                  have := HL2.out
                  simp only [List.length_append]
                  omega
                have ho2 := ho.set d (u := nth (cntT n (L ++ difS n s i ++ difA n (x : Int) (s.take j))) d + 1) ⟨by omega, by omega⟩
                rw [cntT_put hdn] at ho2
                have hb2 := Below.setCell hb (p := ⟨gd, d, none⟩) (Nat.le_refl _) (.int .i64 (nth (cntT n (L ++ difS n s i ++ difA n (x : Int) (s.take j))) d + 1))
                clear ho hb hri hw0
                generalize nth (cntT n (L ++ difS n s i ++ difA n (x : Int) (s.take j))) d = u at *
                go_wp2
                go_roundw
                case rel => exact ⟨j + 1, by omega, by go_num, by rw [HST.out, ← List.append_assoc]; exact ho2, hb2⟩
                case measure => simp [intOf]; omega
            · obtain rfl : j = k := by omega
              rw [List.take_of_length_le (by omega)] at ho
              go_wp2
              go_roundw
              case rel => exact ⟨i + 1, by omega, by go_num, by rw [HS2.out, ← List.append_assoc]; exact ho, hb⟩
              case measure => simp [intOf]; omega
        · obtain rfl : i = k := by omega
          go_wp2
          go_roundw
          case rel => exact ⟨q + 1, by omega, by go_num, by rw [HS.out, hlr]; exact ho, hb⟩
          case measure => simp [intOf]; omega
    · obtain rfl : q = m := by omega
      go_wp2
      go_ret
      exact ⟨_, _, _, rfl, by rw [hla.out, HG.out]; exact ho, by rw [HG.out]; exact hb⟩
end Go.Proofs.Ytnfddnideaakgaa
/- How often each difference occurs; sets that are taken modulo n: the program's side. No condition beyond those stated. -/
namespace Go.Proofs.Ytnfddnideaakgaa
open Go.RowKit

/-- a set of at most 32 residues, in order -/
def okS (n : Nat) (s : List Int) : Bool := decide (0 < s.length) && decide (s.length ≤ 32) && (s.all fun x => decide (0 ≤ x) && decide (x < n)) && (List.range (s.length - 1)).all fun k => decide (nth s k < nth s (k + 1))
theorem okS_block {n : Nat} {s : List Int} (h : okS n s = true) : Block s (n : Int) ∧ s.length ≤ 32 := by
  simp only [okS, Bool.and_eq_true, decide_eq_true_eq, List.all_eq_true, List.mem_range] at h
  obtain ⟨⟨⟨h1, h2⟩, h3⟩, h4⟩ := h
  refine ⟨⟨h1, fun k hk => ?_, fun k hk => h4 k (by omega)⟩, h2⟩
  have := h3 _ (List.getElem_mem hk)
  rw [nth_get hk]
  omega
theorem okS_res {n : Nat} {s : List Int} (h : okS n s = true) : ∀ i, i < s.length → ∃ x : Nat, nth s i = (x : Int) ∧ x < n := fun i hi => by
  have := (okS_block h).1.2.bd i hi
  exact ⟨(nth s i).toNat, by omega, by omega⟩
theorem row_one (s : List Int) : row [s] 0 = s := rfl
theorem resS_one {n : Nat} {s : List Int} (h : okS n s = true) : ResS n [s] := fun q hq => by
  obtain rfl : q = 0 := by simpa using hq
  rw [row_one]
  exact ⟨(okS_block h).2, okS_res h⟩
theorem allBlk_one {n : Nat} {s : List Int} (h : okS n s = true) : allBlk [s] (n : Int) := fun q hq => by
  obtain rfl : q = 0 := by simpa using hq
  exact (okS_block h).1
/-- one slice, written out -/
theorem RR.one {w : World} {A : Option Addr} {n c : Nat} {s : List Int} (h : RI w A n s) (h1 : n ≤ c) (h2 : c ≤ 9223372036854775807) :
    RR (w.alloc (.cells #[.slice A n c] 23)) (some ⟨w.heap.size, 0, none⟩) 1 [s] :=
  ⟨rfl, fun j x hx => by
    have hj : j = 0 := by have := (List.getElem?_eq_some_iff.1 hx).1; simpa using this
    subst hj
    obtain rfl : s = x := by simpa using hx
    exact ⟨_, _, rfl, (Blk.new w 23 #[.slice A n c]).cell 0, A, n, c, rfl, h1, h2, h.keep (below_alloc w _)⟩⟩
/-- the table of one set is the same everywhere but at 0 -/
def flatT (n : Nat) (s : List Int) (lam : Int) : Bool := (List.range n).all fun i => i == 0 || nth (cntT n (difS n s s.length)) i == lam
theorem difF_one (n : Nat) (s : List Int) : difF n [s] 1 = difS n s s.length := by simp [difF]
theorem flatT_at {n : Nat} {s : List Int} {lam : Int} (h : flatT n s lam = true) {i : Nat} (h1 : 1 ≤ i) (hi : i < n) : nth (cntT n (difF n [s] 1)) i = lam := by
  have := List.all_eq_true.1 h i (List.mem_range.2 hi)
  rw [difF_one]
  simp only [Bool.or_eq_true, beq_iff_eq] at this
  rcases this with h | h
  · omega
  · exact h
set_option maxHeartbeats 1000000 in
theorem areBases_ok (n : Nat) (A : Option Addr) (m c : Nat) (sets : List (List Int)) (w : World) (ha : RR w A m sets) (hm : m ≤ 8) (hn1 : 1 ≤ n) (hn : n ≤ 32) (hB : allBlk sets (n : Int)) :
    Calls Try.prog 13 #[.int .i64 n, .slice A m c] w fun e w' => e = .returned (.bool true) ∧ Below w.heap.size w w' := by
  have h1 := areBlocks_any A m c sets (n : Int) w ha (by omega)
  rw [inB_mk (show (1 : Int) ≤ n ∧ (n : Int) ≤ 32 by omega), tB_yes hB, Bool.true_and] at h1
  have h2 : decide ((m : Int) ≤ 8) = true := by simp; omega
  go_enter Try.func13, Try.ntmps13
  go_wp2_with fail
  refine h1.mono ?_
  rintro e w1 ⟨rfl, hb⟩
  go_wp2
  go_ret
  exact ⟨rfl, hb⟩
set_option maxRecDepth 100000 in
set_option maxHeartbeats 2000000 in
theorem familyLambda_ok (n : Nat) (A : Option Addr) (m c : Nat) (sets : List (List Int)) (lam : Int) (w : World) (ha : RR w A m sets) (hm : m ≤ 8) (hn2 : 2 ≤ n) (hn : n ≤ 32) (hR : ResS n sets) (hT : ∀ i, 1 ≤ i → i < n → nth (cntT n (difF n sets sets.length)) i = lam) :
    Calls Try.prog 14 #[.int .i64 n, .slice A m c] w fun e w' => e = .returned (.tuple #[.int .i64 lam, .bool true]) ∧ Below w.heap.size w w' := by
  have hd := diffTable_any n A m c sets w ha hm (by omega) hn hR
  have HT := Lib.hid hT
  clear hT
  have hTl := cntT_len n (difF n sets sets.length)
  generalize cntT n (difF n sets sets.length) = T at *
  go_enter Try.func14, Try.ntmps14
  go_wp2_with fail
  refine hd.mono ?_
  rintro e w1 ⟨B, k, kc, rfl, ho, hb⟩
  obtain rfl : k = n := by rw [← ho.len, hTl]
  have hcap := ho.os.cap
  obtain ⟨g, rfl, -, -, -⟩ := ho.cell (k := 0) (by omega)
  have hc1 : 1 < kc := by omega
  have hri := ho.reads
  have HC := Lib.hid (fun (i : Nat) (h : 1 + i < k) => show w1.cell? ⟨g, 1 + i, none⟩ = some (.int .i64 lam) from by
    obtain ⟨g', hg', hc, -, -⟩ := ho.cell h
    cases hg'
    rw [hc, HT.out (1 + i) (by omega) h])
  have cz := HC.out 0 (by omega)
  clear hd ho hri hTl
  go_wp2
  go_loop [17] (fun iv => ∃ i : Nat, i ≤ k - 1 ∧ iv = .int .i64 i) (fun iv => k - 1 - (intOf iv).toNat)
  case atStart => exact ⟨0, Nat.zero_le _, rfl⟩
  case round =>
    obtain ⟨i, hi, rfl⟩ := hrel
    by_cases hlt : i < k - 1
    · have ci := HC.out i (by omega)
      have hlt' : (i : Int) < ((k - 1 : Nat) : Int) := by omega
      have he : (lam != lam) = false := by simp
      go_wp2
      go_round
      case rel => exact ⟨i + 1, by omega, by go_num⟩
      case measure => simp [intOf]; omega
    · obtain rfl : i = k - 1 := by omega
      go_wp2
      go_ret2
      exact ⟨rfl, hb⟩
set_option maxHeartbeats 1000000 in
theorem FamilyLambda_ok (n : Nat) (A : Option Addr) (m c : Nat) (sets : List (List Int)) (lam : Int) (w : World) (ha : RR w A m sets) (hm : m ≤ 8) (hn2 : 2 ≤ n) (hn : n ≤ 32) (hB : allBlk sets (n : Int)) (hR : ResS n sets) (hT : ∀ i, 1 ≤ i → i < n → nth (cntT n (difF n sets sets.length)) i = lam) :
    Calls Try.prog 6 #[.int .i64 n, .slice A m c] w fun e w' => e = .returned (.tuple #[.int .i64 lam, .int .i64 0]) ∧ Below w.heap.size w w' := by
  go_enter Try.func6, Try.ntmps6
  go_wp2_with fail
  refine (areBases_ok n A m c sets w ha hm (by omega) hn hB).mono ?_
  rintro e w1 ⟨rfl, hb1⟩
  go_wp2_with fail
  refine (familyLambda_ok n A m c sets lam w1 (ha.keep hb1) hm hn2 hn hR hT).mono ?_
  rintro e w2 ⟨rfl, hb2⟩
  go_wp2
  go_ret2
  exact ⟨rfl, hb1.trans (hb2.mono hb1.size)⟩
theorem isResidueSet_ok (n : Nat) (A : Option Addr) (m c : Nat) (s : List Int) (w : World) (ha : RI w A m s) (hn1 : 1 ≤ n) (hn : n ≤ 32) (hs : Block s (n : Int)) (hm : m ≤ 32) :
    Calls Try.prog 15 #[.int .i64 n, .slice A m c] w fun e w' => e = .returned (.bool true) ∧ w = w' := by
  have h1 := validSet_any A m c s (n : Int) w ha (by omega) (by omega) (by omega)
  rw [tB_yes hs.2] at h1
  have h2 : decide ((n : Int) ≥ 1) = true := by simp; omega
  go_enter Try.func15, Try.ntmps15
  go_wp2_with (go_at_call 30; refine h1.mono ?_; rintro e w' ⟨rfl, rfl⟩)
  go_ret
  exact ⟨rfl, rfl⟩
set_option maxHeartbeats 1000000 in
theorem gcd_any (a b : Nat) (w : World) (ha : a ≤ 1000000) (hb : b ≤ 1000000) : Calls Try.prog 17 #[.int .i64 a, .int .i64 b] w fun e w' => e = .returned (.int .i64 (Nat.gcd a b)) ∧ Drawn w w' := by
  go_enter Try.func17, Try.ntmps17
  go_wp2
  go_loopw [0, 1] (fun u v wr => ∃ x y : Nat, u = .int .i64 x ∧ v = .int .i64 y ∧ x ≤ 1000000 ∧ y ≤ 1000000 ∧ Nat.gcd x y = Nat.gcd a b ∧ Drawn w wr) (fun _ v _ => (intOf v).toNat)
  case atStart => exact ⟨a, b, rfl, rfl, ha, hb, rfl, Drawn.refl _⟩
  case round =>
    obtain ⟨x, y, rfl, rfl, hx, hy, hg, hd⟩ := hrel
    by_cases h0 : y = 0
    · subst h0
      have HG := Lib.hid (show x = Nat.gcd a b by rw [← hg, Nat.gcd_zero_right])
      clear hg
      go_wp2
      go_ret
      exact ⟨by rw [← HG.out]; rfl, hd⟩
    · have hy0 : ((y : Int) != 0) = true := by simp; omega
      have hm : (x : Int) % (y : Int) = ((x % y : Nat) : Int) := by omega
      have hml : x % y < y := Nat.mod_lt _ (by omega)
      have HG := Lib.hid (show Nat.gcd y (x % y) = Nat.gcd a b by rw [← hg, Nat.gcd_comm x y, Nat.gcd_rec y x, Nat.gcd_comm])
      clear hg
      go_wp2
      go_quiet (fail)
      go_wp2
      go_roundw
      case rel => exact ⟨y, x % y, rfl, by rw [hm], hy, by omega, HG.out, hd.more _⟩
      case measure => simp [intOf]; first | exact hml | omega
end Go.Proofs.Ytnfddnideaakgaa
/-
  DERIVED: THE SHELF's CONTRACTS AT THIS DUMP, IN PLAIN WORDS (tools/lay-plain.mjs out of 'YtnfddnideaakgaaLayX.lean', which tools/lay-shelf.mjs wrote): THE SAME DECLARATIONS UNDER THE SAME NAMES: 'import', 'namespace', 'open', 'def', 'theorem' AND NOTHING ELSE: no command of the shelf's: FOR A HAND-IN. Each laying: the table of numbers ('.._ren') and one theorem, a field a fact of the dump's own or the kernel's comparison; each contract: ONE APPLICATION.
-/
namespace Go.Proofs
open Go.Shelf
def Try.srtL_ren : Go.Shelf.Ren := ⟨fun | 5 => 47 | 8 => 52 | 7 => 60 | 19 => 69 | 20 => 70 | 10 => 73 | 11 => 74 | 12 => 75 | 13 => 76 | 14 => 77 | 15 => 78 | 16 => 79 | 17 => 80 | 18 => 81 | 30 => 87 | 31 => 83 | 32 => 84 | 33 => 88 | 34 => 89 | 35 => 59 | 40 => 91 | n => n, fun | 23 => 23 | 25 => 2 | 3 => 3 | 32 => 81 | 22 => 23 | 0 => 0 | 44 => 96 | 46 => 98 | 4 => 4 | 36 => 89 | 35 => 88 | 41 => 93 | 5 => 5 | 9 => 9 | 53 => 105 | 57 => 109 | 63 => 113 | 64 => 114 | n => n, fun | n => n⟩
theorem Try.srtL : Go.Proofs.SlLaysM.n5 Try.prog Try.srtL_ren := {
  mixed := by kernel_rfl
  f5 := ⟨Try.f47.name, by decide, Try.func47.trans (congrArg some (by kernel_rfl))⟩
  f7 := ⟨Try.f60.name, by decide, Try.func60.trans (congrArg some (by kernel_rfl))⟩
  f8 := Try.func52.trans (congrArg some (by kernel_rfl))
  f10 := ⟨Try.f73.name, by decide, Try.func73.trans (congrArg some (by kernel_rfl))⟩
  f11 := ⟨Try.f74.name, by decide, Try.func74.trans (congrArg some (by kernel_rfl))⟩
  f12 := ⟨Try.f75.name, by decide, Try.func75.trans (congrArg some (by kernel_rfl))⟩
  f13 := ⟨Try.f76.name, by decide, Try.func76.trans (congrArg some (by kernel_rfl))⟩
  f14 := ⟨Try.f77.name, by decide, Try.func77.trans (congrArg some (by kernel_rfl))⟩
  f15 := ⟨Try.f78.name, by decide, Try.func78.trans (congrArg some (by kernel_rfl))⟩
  f16 := ⟨Try.f79.name, by decide, Try.func79.trans (congrArg some (by kernel_rfl))⟩
  f17 := ⟨Try.f80.name, by decide, Try.func80.trans (congrArg some (by kernel_rfl))⟩
  f18 := ⟨Try.f81.name, by decide, Try.func81.trans (congrArg some (by kernel_rfl))⟩
  f19 := Try.func69.trans (congrArg some (by kernel_rfl))
  f20 := Try.func70.trans (congrArg some (by kernel_rfl))
  f30 := ⟨Try.f87.name, by decide, Try.func87.trans (congrArg some (by kernel_rfl))⟩
  f31 := Try.func83.trans (congrArg some (by kernel_rfl))
  f32 := Try.func84.trans (congrArg some (by kernel_rfl))
  f33 := ⟨Try.f88.name, by decide, Try.func88.trans (congrArg some (by kernel_rfl))⟩
  f34 := ⟨Try.f89.name, by decide, Try.func89.trans (congrArg some (by kernel_rfl))⟩
  f35 := ⟨Try.f59.name, by decide, Try.func59.trans (congrArg some (by kernel_rfl))⟩
  f40 := ⟨Try.f91.name, by decide, Try.func91.trans (congrArg some (by kernel_rfl))⟩
  t0 := Try.underlying0
  a0 := Try.isAgg0
  z0 := Try.sizeOf0
  v0 := Try.zeroValue0
  t3 := Try.underlying3
  a3 := Try.isAgg3
  z3 := Try.sizeOf3
  v3 := Try.zeroValue3
  t4 := Try.underlying4
  a4 := Try.isAgg4
  z4 := Try.sizeOf4
  v4 := Try.zeroValue4
  t5 := Try.underlying5
  a5 := Try.isAgg5
  z5 := Try.sizeOf5
  v5 := Try.zeroValue5
  t9 := Try.underlying9
  a9 := Try.isAgg9
  z9 := Try.sizeOf9
  v9 := Try.zeroValue9
  t22 := Try.underlying23
  a22 := Try.isAgg23
  z22 := Try.sizeOf23
  v22 := Try.zeroValue23
  t23 := Try.underlying23
  a23 := Try.isAgg23
  z23 := Try.sizeOf23
  v23 := Try.zeroValue23
  t25 := Try.underlying2
  a25 := Try.isAgg2
  z25 := Try.sizeOf2
  v25 := Try.zeroValue2
  t32 := Try.underlying81
  a32 := Try.isAgg81
  z32 := Try.sizeOf81
  v32 := Try.zeroValue81
  t35 := Try.underlying88
  a35 := Try.isAgg88
  z35 := Try.sizeOf88
  v35 := Try.zeroValue88
  t36 := Try.underlying89
  a36 := Try.isAgg89
  z36 := Try.sizeOf89
  v36 := Try.zeroValue89
  t41 := Try.underlying93
  a41 := Try.isAgg93
  z41 := Try.sizeOf93
  v41 := Try.zeroValue93
  t44 := Try.underlying96
  a44 := Try.isAgg96
  z44 := Try.sizeOf96
  v44 := Try.zeroValue96
  t46 := Try.underlying98
  a46 := Try.isAgg98
  z46 := Try.sizeOf98
  v46 := Try.zeroValue98
  t53 := Try.underlying105
  a53 := Try.isAgg105
  z53 := Try.sizeOf105
  v53 := Try.zeroValue105
  t57 := Try.underlying109
  a57 := Try.isAgg109
  z57 := Try.sizeOf109
  v57 := Try.zeroValue109
  t63 := Try.underlying113
  a63 := Try.isAgg113
  z63 := Try.sizeOf113
  v63 := Try.zeroValue113
  t64 := Try.underlying114
  a64 := Try.isAgg114
  z64 := Try.sizeOf114
  v64 := Try.zeroValue114 }
end Go.Proofs
/- The library's sort of numbers, in memory of the call's own. No condition beyond those stated. -/
namespace Go.Proofs.Ytnfddnideaakgaa
open Go.RowKit Go.Sort

theorem sort_any (B : Nat) (e : TypeId) (A : Option Addr) (n c : Nat) (zs : List Int) (w : World) (ho : OI w B e A n c zs) (hn : n ≤ 4611686018427387900) :
    Calls Try.prog 47 #[.slice A n c] w fun en w' => en = .returned (.tuple #[]) ∧ OI w' B e A n c (srt zs) ∧ w.grownBy w' (blk A) := by
  have hl := ho.len
  have hall : All64 (srt zs) := fun z hz => ho.all z ((srt_perm zs).mem_iff.1 hz)
  rcases ho.os.cases with ⟨rfl, rfl, rfl, hx⟩ | ⟨g, cur, rfl, hB, hg, hnc, hc, hsz, htk⟩
  · have hz : zs = [] := List.eq_nil_of_length_eq_zero hl
    subst hz
    exact (AnyM.slices_Sort_int_none Try.srtL none 0 w).mono fun en w' ⟨he, hw⟩ => by
      subst hw
      exact ⟨he, by rw [show srt [] = [] by simp [srt]]; exact OI.nil_ _ _ _, World.grownBy.refl _ _⟩
  · have hlt : g < w.heap.size := (Array.getElem?_eq_some_iff.1 hg).1
    subst hl
    rw [Nat.mul_one] at htk hsz
    have hH : Holds (Value.int .i64) w g 0 zs.toArray := holds_of_blockI hg htk
    exact (AnyM.slices_Sort_int Try.srtL g 0 c zs w hH hlt (by omega)).mono fun en w' ⟨he, nn, os, hw⟩ => by
      subst hw
      refine ⟨he, ⟨?_, hall⟩, grownBy_sortedI _⟩
      have := ownsRow_sortedI (w := w) (n := nn) (os := os) (ss := zs) (ts := srt zs) (srt_len zs) hB hg hnc hc (by rw [Nat.mul_one]; exact hsz)
      exact this
end Go.Proofs.Ytnfddnideaakgaa
/- Images of sets modulo n, least translates, multipliers: the program's side. No condition beyond those stated. -/
namespace Go.Proofs.Ytnfddnideaakgaa
open Go.RowKit

theorem map_take_step (s : List Int) (f : Int → Int) {i : Nat} (h : i < s.length) : (s.take (i + 1)).map f = (s.take i).map f ++ [f (nth s i)] := by
  rw [List.take_succ_eq_append_getElem h, List.map_append, nth_get h]
  rfl
set_option maxRecDepth 100000 in
set_option maxHeartbeats 2000000 in
theorem mappedSet_any (g : Nat) (lb : Array Value) (eg : ∀ args w, (callFunc g args).run Try.prog w = .ok (.enter g args) w) (F : Int → Int) (n : Nat) (A : Option Addr) (m c : Nat) (s : List Int) (w : World) (ha : RI w A m s) (hm : m ≤ 1000) (hn : 1 ≤ n) (hn2 : n ≤ 1000)
    (hF : ∀ i, i < m → 0 ≤ F (nth s i)) (hp : ∀ (i : Nat) (W : World), Below w.heap.size w W → i < m → Calls Try.prog g (#[.int .i64 (nth s i)] ++ lb) W fun e w' => e = .returned (.int .i64 (F (nth s i))) ∧ W = w') :
    Calls Try.prog 33 #[.int .i64 n, .slice A m c, .func (.func g) #[] lb] w (RetI w 2 (mapK n F s)) := by
  have hla := Lib.hid ha.len
  have HP := Lib.hid hp
  have HF := Lib.hid hF
  clear hp hF
  go_enter Try.func33, Try.ntmps33
  go_wp2
  go_loopw [7, 12] (fun l iv wr => ∃ (i : Nat) (B : Option Addr) (bc : Nat), i ≤ m ∧ iv = .int .i64 i ∧ l = .slice B i bc ∧ OI wr w.heap.size 2 B i bc ((s.take i).map fun x => F x % n) ∧ Below w.heap.size w wr) (fun _ iv _ => m - (intOf iv).toNat)
  case atStart => exact ⟨0, none, 0, Nat.zero_le _, rfl, rfl, by simpa using OI.nil_ _ _ _, Below.refl _ _⟩
  case round =>
    obtain ⟨i, B, bc, hi, rfl, rfl, ho, hb⟩ := hrel
    by_cases hlt : i < m
    · obtain ⟨ad, rfl, cx, hx64⟩ := (ha.keep hb).get hlt
      have hcall := HP.out i wr hb hlt
      have hf := HF.out i hlt
      have HST := Lib.hid (map_take_step s (fun x => F x % n) (i := i) (by rw [hla.out]; exact hlt))
      have hbs := hb.size
      generalize nth s i = x at *
      have hr1 := Int.emod_nonneg (F x) (show (n : Int) ≠ 0 by omega)
      have hr2 := Int.emod_lt_of_pos (F x) (show (0 : Int) < n by omega)
      have hki : I64 (F x % n) := by unfold I64; omega
      generalize F x = y at *
      go_wp2_with (first | (go_at_fn g; refine hcall.mono ?_; rintro e w4 ⟨rfl, rfl⟩) | (at_builtin; refine app_int _ rfl (.tmp 16) (.tmp 22) rfl w.heap.size B i bc _ rfl ho (y % n) wr.heap.size rfl rfl hki (by omega) hbs ?_; intro A5 c5 w5 ho5 hg5 hf5; have hb5 := below_own hb hg5 hbs (fun b hb => (ho.os.lt hb).1); rw [← HST.out] at ho5))
      go_roundw
      case rel => exact ⟨i + 1, A5, c5, by omega, by go_num, rfl, ho5, hb5⟩
      case measure => simp [intOf]; omega
    · obtain rfl : i = m := by omega
      rw [List.take_of_length_le (by rw [hla.out]; exact Nat.le_refl _)] at ho
      have hso := sort_any _ _ B i bc _ wr ho (by omega)
      go_wp2_with fail
      refine hso.mono ?_
      rintro e w2 ⟨rfl, ho2, hg2⟩
      have hb2 := below_own hb hg2 hb.size (fun b hb => (ho.os.lt hb).1)
      go_wp2
      go_ret
      exact ⟨B, i, bc, rfl, ho2, hb2⟩
theorem translate1_any (x by_ : Int) (p : Addr) (w : World) (hp : w.cell? p = some (.int .i64 by_)) (h1 : 0 ≤ x ∧ x ≤ 1000) (h2 : 0 ≤ by_ ∧ by_ ≤ 1000) : Calls Try.prog 37 #[.int .i64 x, .pointer (some p)] w fun e w' => e = .returned (.int .i64 (x + by_)) ∧ w = w' := by
  go_enter Try.func37, Try.ntmps37
  go_wp2
  go_ret
  exact ⟨rfl, rfl⟩
set_option maxRecDepth 100000 in
set_option maxHeartbeats 1000000 in
theorem translate_any (n : Nat) (A : Option Addr) (m c : Nat) (s : List Int) (k : Nat) (w : World) (ha : RI w A m s) (hm : m ≤ 1000) (hn : 1 ≤ n) (hn2 : n ≤ 1000) (hk : k ≤ 1000) (hs : ∀ i, i < s.length → 0 ≤ nth s i ∧ nth s i ≤ 1000) :
    Calls Try.prog 22 #[.int .i64 n, .slice A m c, .int .i64 k] w (RetI w 2 (transK n s k)) := by
  have eg : ∀ (args : Array Value) (w : World), (callFunc 37 args).run Try.prog w = .ok (.enter 37 args) w := fun _ _ => by kernel_rfl
  have hla := ha.len
  have hb1 := below_alloc w (.cells #[.int .i64 (k : Int)] 2)
  have hcap : (w.alloc (.cells #[.int .i64 (k : Int)] 2)).cell? ⟨w.heap.size, 0, none⟩ = some (.int .i64 (k : Int)) := (Blk.new w 2 #[.int .i64 (k : Int)]).cell 0
  have hmp := mappedSet_any 37 #[.pointer (some ⟨w.heap.size, 0, none⟩)] eg (fun x => x + k) n A m c s (w.alloc (.cells #[.int .i64 (k : Int)] 2)) (ha.keep hb1) hm hn hn2
    (fun i hi => by have := hs i (by omega); omega)
    (fun i W hW hi => translate1_any (nth s i) k ⟨w.heap.size, 0, none⟩ W (below_cell hW hcap) (hs i (by omega)) (by omega))
  go_enter Try.func22, Try.ntmps22
  go_wp2_with (go_at_call 33; refine hmp.mono ?_; rintro e w2 ⟨B, k2, c2, rfl, ho, hb2⟩)
  go_ret
  exact ⟨B, k2, c2, rfl, ho.more hb1.size, hb1.trans (hb2.mono hb1.size)⟩
theorem multiply1_any (x by_ : Int) (p : Addr) (w : World) (hp : w.cell? p = some (.int .i64 by_)) (h1 : 0 ≤ x ∧ x ≤ 1000) (h2 : 0 ≤ by_ ∧ by_ ≤ 1000) : Calls Try.prog 34 #[.int .i64 x, .pointer (some p)] w fun e w' => e = .returned (.int .i64 (x * by_)) ∧ w = w' := by
  have hmul := mul_bd' h1.1 h1.2 h2.1 h2.2
  have hm1 := hmul.1
  have hm2 := hmul.2
  go_enter Try.func34, Try.ntmps34
  go_wp2
  go_ret
  exact ⟨rfl, rfl⟩
set_option maxRecDepth 100000 in
set_option maxHeartbeats 1000000 in
theorem multiply_any (n : Nat) (A : Option Addr) (m c : Nat) (s : List Int) (k : Nat) (w : World) (ha : RI w A m s) (hm : m ≤ 1000) (hn : 1 ≤ n) (hn2 : n ≤ 1000) (hk : k ≤ 1000) (hs : ∀ i, i < s.length → 0 ≤ nth s i ∧ nth s i ≤ 1000) :
    Calls Try.prog 19 #[.int .i64 n, .slice A m c, .int .i64 k] w (RetI w 2 (mulK n s k)) := by
  have eg : ∀ (args : Array Value) (w : World), (callFunc 34 args).run Try.prog w = .ok (.enter 34 args) w := fun _ _ => by kernel_rfl
  have hla := ha.len
  have hb1 := below_alloc w (.cells #[.int .i64 (k : Int)] 2)
  have hcap : (w.alloc (.cells #[.int .i64 (k : Int)] 2)).cell? ⟨w.heap.size, 0, none⟩ = some (.int .i64 (k : Int)) := (Blk.new w 2 #[.int .i64 (k : Int)]).cell 0
  have hmp := mappedSet_any 34 #[.pointer (some ⟨w.heap.size, 0, none⟩)] eg (fun x => x * k) n A m c s (w.alloc (.cells #[.int .i64 (k : Int)] 2)) (ha.keep hb1) hm hn hn2
    (fun i hi => by have := hs i (by omega); exact Int.mul_nonneg this.1 (by omega))
    (fun i W hW hi => multiply1_any (nth s i) k ⟨w.heap.size, 0, none⟩ W (below_cell hW hcap) (hs i (by omega)) (by omega))
  go_enter Try.func19, Try.ntmps19
  go_wp2_with (go_at_call 33; refine hmp.mono ?_; rintro e w2 ⟨B, k2, c2, rfl, ho, hb2⟩)
  go_ret
  exact ⟨B, k2, c2, rfl, ho.more hb1.size, hb1.trans (hb2.mono hb1.size)⟩
end Go.Proofs.Ytnfddnideaakgaa
