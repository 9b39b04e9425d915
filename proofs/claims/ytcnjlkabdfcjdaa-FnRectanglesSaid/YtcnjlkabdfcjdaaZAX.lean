/-
  DERIVED: THE SHELF's CONTRACTS AT THIS DUMP, IN PLAIN WORDS (tools/lay-plain.mjs out of 'YtcnjlkabdfcjdaaLayX.lean', which tools/lay-shelf.mjs wrote): THE SAME DECLARATIONS UNDER THE SAME NAMES: 'import', 'namespace', 'open', 'def', 'theorem' AND NOTHING ELSE: no command of the shelf's: FOR A HAND-IN. Each laying: the table of numbers ('.._ren') and one theorem, a field a fact of the dump's own or the kernel's comparison; each contract: ONE APPLICATION.
-/
import Derived.Shelf.SlGeneric
import Derived.Shelf.SortM.Plain
import Derived.Shelf.SortM.SortNone
import Derived.Ground.SlgmProg
import Derived.Test.YtcnjlkabdfcjdaaProg
import Derived.Test.YtcnjlkabdfcjdaaZAD
import Derived.Test.YtcnjlkabdfcjdaaZAA
import Derived.Sort.OwnSortedInts
import Derived.Test.YtcnjlkabdfcjdaaZAF
import Derived.Deep.RegionHeld3
import Derived.Test.YtcnjlkabdfcjdaaZAP
set_option linter.unusedVariables false
set_option linter.unusedSimpArgs false
namespace Go.Proofs
open Go.Shelf
def Try.srtL_ren : Go.Shelf.Ren := ⟨fun | 5 => 84 | 8 => 102 | 7 => 101 | 19 => 119 | 20 => 120 | 10 => 110 | 11 => 111 | 12 => 112 | 13 => 113 | 14 => 114 | 15 => 115 | 16 => 116 | 17 => 117 | 18 => 118 | 30 => 126 | 31 => 127 | 32 => 128 | 33 => 129 | 34 => 130 | 35 => 97 | 40 => 132 | n => n, fun | 23 => 30 | 25 => 2 | 3 => 3 | 32 => 116 | 22 => 30 | 0 => 0 | 44 => 134 | 46 => 91 | 4 => 4 | 36 => 128 | 35 => 127 | 41 => 89 | 5 => 5 | 9 => 9 | 53 => 140 | 57 => 144 | 63 => 146 | 64 => 147 | n => n, fun | n => n⟩
theorem Try.srtL : Go.Proofs.SlLaysM.n5 Try.prog Try.srtL_ren := {
  mixed := by kernel_rfl
  f5 := ⟨Try.f84.name, by decide, Try.func84.trans (congrArg some (by kernel_rfl))⟩
  f7 := ⟨Try.f101.name, by decide, Try.func101.trans (congrArg some (by kernel_rfl))⟩
  f8 := Try.func102.trans (congrArg some (by kernel_rfl))
  f10 := ⟨Try.f110.name, by decide, Try.func110.trans (congrArg some (by kernel_rfl))⟩
  f11 := ⟨Try.f111.name, by decide, Try.func111.trans (congrArg some (by kernel_rfl))⟩
  f12 := ⟨Try.f112.name, by decide, Try.func112.trans (congrArg some (by kernel_rfl))⟩
  f13 := ⟨Try.f113.name, by decide, Try.func113.trans (congrArg some (by kernel_rfl))⟩
  f14 := ⟨Try.f114.name, by decide, Try.func114.trans (congrArg some (by kernel_rfl))⟩
  f15 := ⟨Try.f115.name, by decide, Try.func115.trans (congrArg some (by kernel_rfl))⟩
  f16 := ⟨Try.f116.name, by decide, Try.func116.trans (congrArg some (by kernel_rfl))⟩
  f17 := ⟨Try.f117.name, by decide, Try.func117.trans (congrArg some (by kernel_rfl))⟩
  f18 := ⟨Try.f118.name, by decide, Try.func118.trans (congrArg some (by kernel_rfl))⟩
  f19 := Try.func119.trans (congrArg some (by kernel_rfl))
  f20 := Try.func120.trans (congrArg some (by kernel_rfl))
  f30 := ⟨Try.f126.name, by decide, Try.func126.trans (congrArg some (by kernel_rfl))⟩
  f31 := Try.func127.trans (congrArg some (by kernel_rfl))
  f32 := Try.func128.trans (congrArg some (by kernel_rfl))
  f33 := ⟨Try.f129.name, by decide, Try.func129.trans (congrArg some (by kernel_rfl))⟩
  f34 := ⟨Try.f130.name, by decide, Try.func130.trans (congrArg some (by kernel_rfl))⟩
  f35 := ⟨Try.f97.name, by decide, Try.func97.trans (congrArg some (by kernel_rfl))⟩
  f40 := ⟨Try.f132.name, by decide, Try.func132.trans (congrArg some (by kernel_rfl))⟩
  t0 := Try.underlying0
  a0 := Try.isAgg0
  z0 := Try.sizeOf0
  v0 := Try.zeroValue0
  t3 := Try.underlying3
  a3 := Try.isAgg3
  z3 := Try.sizeOf3
  v3 := Try.zeroValue3
  t4 := Try.underlying4
  a4 := Try.isAgg4
  z4 := Try.sizeOf4
  v4 := Try.zeroValue4
  t5 := Try.underlying5
  a5 := Try.isAgg5
  z5 := Try.sizeOf5
  v5 := Try.zeroValue5
  t9 := Try.underlying9
  a9 := Try.isAgg9
  z9 := Try.sizeOf9
  v9 := Try.zeroValue9
  t22 := Try.underlying30
  a22 := Try.isAgg30
  z22 := Try.sizeOf30
  v22 := Try.zeroValue30
  t23 := Try.underlying30
  a23 := Try.isAgg30
  z23 := Try.sizeOf30
  v23 := Try.zeroValue30
  t25 := Try.underlying2
  a25 := Try.isAgg2
  z25 := Try.sizeOf2
  v25 := Try.zeroValue2
  t32 := Try.underlying116
  a32 := Try.isAgg116
  z32 := Try.sizeOf116
  v32 := Try.zeroValue116
  t35 := Try.underlying127
  a35 := Try.isAgg127
  z35 := Try.sizeOf127
  v35 := Try.zeroValue127
  t36 := Try.underlying128
  a36 := Try.isAgg128
  z36 := Try.sizeOf128
  v36 := Try.zeroValue128
  t41 := Try.underlying89
  a41 := Try.isAgg89
  z41 := Try.sizeOf89
  v41 := Try.zeroValue89
  t44 := Try.underlying134
  a44 := Try.isAgg134
  z44 := Try.sizeOf134
  v44 := Try.zeroValue134
  t46 := Try.underlying91
  a46 := Try.isAgg91
  z46 := Try.sizeOf91
  v46 := Try.zeroValue91
  t53 := Try.underlying140
  a53 := Try.isAgg140
  z53 := Try.sizeOf140
  v53 := Try.zeroValue140
  t57 := Try.underlying144
  a57 := Try.isAgg144
  z57 := Try.sizeOf144
  v57 := Try.zeroValue144
  t63 := Try.underlying146
  a63 := Try.isAgg146
  z63 := Try.sizeOf146
  v63 := Try.zeroValue146
  t64 := Try.underlying147
  a64 := Try.isAgg147
  z64 := Try.sizeOf147
  v64 := Try.zeroValue147 }
end Go.Proofs
/- The library's sort of numbers, in memory of the call's own. No condition beyond those stated. -/
namespace Go.Proofs.Ytcnjlkabdfcjdaa
open Go.RowKit Go.Sort

theorem sort_any (B : Nat) (e : TypeId) (A : Option Addr) (n c : Nat) (zs : List Int) (w : World) (ho : OI w B e A n c zs) (hn : n ≤ 4611686018427387900) :
    Calls Try.prog 84 #[.slice A n c] w fun en w' => en = .returned (.tuple #[]) ∧ OI w' B e A n c (srt zs) ∧ w.grownBy w' (blk A) := by
  have hl := ho.len
  have hall : All64 (srt zs) := fun z hz => ho.all z ((srt_perm zs).mem_iff.1 hz)
  rcases ho.os.cases with ⟨rfl, rfl, rfl, hx⟩ | ⟨g, cur, rfl, hB, hg, hnc, hc, hsz, htk⟩
  · have hz : zs = [] := List.eq_nil_of_length_eq_zero hl
    subst hz
    exact (AnyM.slices_Sort_int_none Try.srtL none 0 w).mono fun en w' ⟨he, hw⟩ => by
      subst hw
      exact ⟨he, by rw [show srt [] = [] by simp [srt]]; exact OI.nil_ _ _ _, World.grownBy.refl _ _⟩
  · have hlt : g < w.heap.size := (Array.getElem?_eq_some_iff.1 hg).1
    subst hl
    rw [Nat.mul_one] at htk hsz
    have hH : Holds (Value.int .i64) w g 0 zs.toArray := holds_of_blockI hg htk
    exact (AnyM.slices_Sort_int Try.srtL g 0 c zs w hH hlt (by omega)).mono fun en w' ⟨he, nn, os, hw⟩ => by
      subst hw
      refine ⟨he, ⟨?_, hall⟩, grownBy_sortedI _⟩
      have := ownsRow_sortedI (w := w) (n := nn) (os := os) (ss := zs) (ts := srt zs) (srt_len zs) hB hg hnc hc (by rw [Nat.mul_one]; exact hsz)
      exact this
end Go.Proofs.Ytcnjlkabdfcjdaa
/- Squares: whether rows are one, the program's side. No condition beyond those stated. -/
namespace Go.Proofs.Ytcnjlkabdfcjdaa
open Go.RowKit

set_option maxHeartbeats 1000000 in
theorem validPermutation_any (A : Option Addr) (n c : Nat) (p : List Int) (w : World) (ha : RI w A n p) (hn : n ≤ 1099511627776) :
    Calls Try.prog 50 #[.slice A n c] w (RetB w (tB (PermOk p))) := by
  have hla := Lib.hid ha.len
  go_enter Try.func50, Try.ntmps50
  go_wp2_with fail
  refine (clone_any A n c p _ ha hn).mono ?_
  rintro e w1 ⟨A2, n2, c2, rfl, ho, hb⟩
  obtain rfl : n2 = n := by rw [← ho.len, hla.out]
  go_wp2_with fail
  refine (sort_any w.heap.size _ A2 n2 c2 p _ ho (by omega)).mono ?_
  rintro e w2 ⟨rfl, ho2, hg2⟩
  have hb2 := below_own hb hg2 hb.size (fun b hb => (ho.os.lt hb).1)
  clear ho hb hg2
  have hrd := ho2.reads
  have hsl := Lib.hid (srt_len p)
  clear ho2
  go_wp2
  go_loop [12] (fun i => ∃ k : Nat, k ≤ n2 ∧ i = .int .i64 k ∧ ∀ j : Nat, j < k → nth (srt p) j = (j : Int)) (fun i => n2 - (intOf i).toNat)
  case atStart => exact ⟨0, Nat.zero_le _, rfl, fun _ h => absurd h (by omega)⟩
  case round =>
    obtain ⟨k, hk, rfl, hto⟩ := hrel
    by_cases hlt : k < n2
    · obtain ⟨a, rfl, hca, hia⟩ := hrd.get hlt
      by_cases he : nth (srt p) k = (k : Int)
      · have he' : (nth (srt p) k != (k : Int)) = false := by simp [he]
        have H := Lib.hid (show ∀ j : Nat, j < k + 1 → nth (srt p) j = (j : Int) from fun j hj => by
          rcases Nat.lt_succ_iff_lt_or_eq.1 hj with h' | h'
          · exact hto j h'
          · rw [h']; exact he)
        clear hto he
        go_wp2
        go_round
        case rel => exact ⟨k + 1, by omega, by go_num, H.out⟩
        case measure => simp [intOf]; omega
      · have he' : (nth (srt p) k != (k : Int)) = true := by simp [he]
        have H := Lib.hid (show tB (PermOk p) = false from tB_no fun hh => he ((perm_iff p).1 hh.2 k (by rw [hla.out]; exact hlt)))
        clear hto he
        go_wp2
        go_ret
        exact ⟨by rw [H.out]; rfl, hb2⟩
    · have hperm := Lib.hid ((perm_iff p).2 (show inOrder p from fun j hj => hto j (by rw [hla.out] at hj; omega)))
      clear hto
      by_cases h32 : n2 ≤ 32
      · have H := Lib.hid (show tB (PermOk p) = true from tB_yes ⟨by rw [hla.out]; exact h32, hperm.out⟩)
        go_wp2
        go_ret
        exact ⟨by rw [H.out]; exact ret_bool (by simp; omega), hb2⟩
      · have H := Lib.hid (show tB (PermOk p) = false from tB_no fun hh => h32 (by have := hh.1; rw [hla.out] at this; exact this))
        go_wp2
        go_ret
        exact ⟨by rw [H.out]; exact ret_bool (by simp; omega), hb2⟩
noncomputable def noPerm (d : Int) (z : List Int) : Bool := !tB ((z.length : Int) = d ∧ PermOk z)
def allPerm (d : Int) (zs : List (List Int)) : Prop := ∀ i, i < zs.length → ((row zs i).length : Int) = d ∧ PermOk (row zs i)
theorem noPerm_any (zs : List (List Int)) (d : Int) : (!zs.any (noPerm d)) = tB (allPerm d zs) := by
  cases h : zs.any (noPerm d) with
  | true =>
    obtain ⟨x, hx, hb⟩ := List.any_eq_true.1 h
    obtain ⟨k, hk, rfl⟩ := List.mem_iff_getElem.1 hx
    rw [tB_no (p := allPerm d zs) fun hh => ?_]
    · rfl
    · have := hh k hk
      rw [row_get hk] at this
      simp [noPerm, tB_yes this] at hb
  | false =>
    rw [tB_yes (p := allPerm d zs) fun i hi => ?_]
    · rfl
    · rw [List.any_eq_false] at h
      have := h zs[i] (List.getElem_mem hi)
      rw [row_get hi]
      exact tB_true.1 (by simpa [noPerm] using this)
theorem keep1 {W w' : World} {p : Addr} {u : Value} (hb : Below W.heap.size W w') (h1 : W.cell? p = some u) : Below W.heap.size W w' ∧ w'.cell? p = some u := ⟨hb, below_cell hb h1⟩
set_option maxHeartbeats 1000000 in
theorem arePermutations1_any (A : Option Addr) (n c : Nat) (z : List Int) (d : Int) (p : Addr) (w : World) (hp : w.cell? p = some (.int .i64 d)) (ha : RI w A n z) (hn : n ≤ 1099511627776) :
    Calls Try.prog 83 #[.slice A n c, .pointer (some p)] w (RetB w (noPerm d z)) := by
  have hla := Lib.hid ha.len
  by_cases h1 : (n : Int) = d
  · have h1' : ((n : Int) != d) = false := by simp [h1]
    have H := Lib.hid (show (!tB (PermOk z)) = noPerm d z by
      unfold noPerm
      congr 1
      exact tB_congr ⟨fun h => ⟨by rw [hla.out]; exact h1, h⟩, fun h => h.2⟩)
    clear h1
    go_enter Try.func83, Try.ntmps83
    go_wp2
    go_region_held3 (fun w' => Below w.heap.size w w' ∧ w'.cell? p = some (.int .i64 d))
      (first | exact keep1 (below_drewn _ 1) hp | exact keep1 (below_then (And.left (by assumption)) (by assumption)) hp)
      (first
        | (go_at_call 78; (with_reducible refine (sizeI_any A n c _ ?_).mono ?_); (omega); rintro e w2 ⟨rfl, rfl⟩)
        | (go_at_call 50; (with_reducible refine (validPermutation_any A n c z _ ?_ ?_).mono ?_); (exact ha.keep (And.left (by assumption))); (exact hn); rintro e w3 ⟨rfl, hb3⟩))
    have hw : Below w.heap.size w w3 := And.left (by assumption)
    go_wp2
    go_ret
    exact ⟨by rw [← H.out]; rfl, hw⟩
  · have h1' : ((n : Int) != d) = true := by simp [h1]
    have H := Lib.hid (show noPerm d z = true by
      unfold noPerm
      rw [tB_no fun h => h1 (by have := h.1; rw [hla.out] at this; exact this)]
      rfl)
    have hcall : ∀ q, Calls Try.prog 78 #[.slice A n c] (w.drewN q) (Quiet (w.drewN q) (.int .i64 n)) := fun q => (sizeI_any A n c _ (by omega)).mono fun _ _ h => Quiet.of_same h
    clear h1
    go_enter Try.func83, Try.ntmps83
    go_wp2
    go_quiet ((go_at_call 78; exact Quiet.call (hcall _)))
    go_wp2
    go_ret
    exact ⟨by rw [H.out]; rfl, below_drewn _ _⟩
set_option maxHeartbeats 400000 in
theorem arePermutations_any (d : Int) (A : Option Addr) (n c : Nat) (zs : List (List Int)) (w : World) (ha : RR w A n zs) (hn : n ≤ 1099511627776) (hr : cells zs ≤ 1099511627776) :
    Calls Try.prog 49 #[.int .i64 d, .slice A n c] w (RetB w (tB (allPerm d zs))) := by
  have eg : ∀ (args : Array Value) (w : World), (callFunc 83 args).run Try.prog w = .ok (.enter 83 args) w := fun _ _ => by kernel_rfl
  have hb1 := below_alloc w (.cells #[.int .i64 d] 2)
  have hcell : (w.alloc (.cells #[.int .i64 d] 2)).cell? ⟨w.heap.size, 0, none⟩ = some (.int .i64 d) := (Blk.new w 2 #[.int .i64 d]).cell 0
  have H := Lib.hid (noPerm_any zs d)
  have hask : AskRb 83 #[.pointer (some ⟨w.heap.size, 0, none⟩)] (noPerm d) (w.alloc (.cells #[.int .i64 d] 2)) 1099511627776 := fun A' n' c' z W hW hz h2 h3 h4 =>
    arePermutations1_any A' n' c' z d _ W (below_cell hW hcell) hz h4
  go_enter Try.func49, Try.ntmps49
  go_wp2_with (go_at_call 82; refine (containsFuncRb _ _ eg (noPerm d) A n c zs _ 1099511627776 (ha.keep hb1) (by omega) (rows_small ha hr) hask).mono ?_; rintro e w2 ⟨rfl, hb2⟩)
  go_ret
  exact ⟨by rw [← H.out]; rfl, below_then hb1 hb2⟩
set_option maxRecDepth 100000 in
set_option maxHeartbeats 2000000 in
theorem validSquare_any (A : Option Addr) (n c : Nat) (a : List (List Int)) (w : World) (ha : RR w A n a) (hn : n ≤ 1099511627776) (hr : cells a ≤ 1099511627776) :
    Calls Try.prog 18 #[.slice A n c] w (RetB w (tB (Square a))) := by
  have hla := Lib.hid ha.len
  have HS := Lib.hid (square_iff a)
  cases h0 : inB (n : Int) 1 10 with
  | false =>
    have H := Lib.hid (show tB (Square a) = false from tB_no fun hh => by
      have h1 := hh.1; have h2 := hh.2.1
      rw [hla.out] at h1 h2
      rw [inB_mk ⟨by omega, by omega⟩] at h0
      cases h0)
    go_enter Try.func18, Try.ntmps18
    go_wp2_with (first | (go_at_call 48; refine (sizeR_any _ _ _ _ (by omega)).mono ?_; rintro e w' ⟨rfl, rfl⟩) | (go_at_call 36; refine (within_any _ _ _ _).mono ?_; rintro e w' ⟨rfl, rfl⟩; rw [h0]))
    go_ret
    exact ⟨by rw [H.out]; rfl, Below.refl _ _⟩
  | true =>
    obtain ⟨i1, i2⟩ := inB_true h0
    have n1 : 1 ≤ n := by omega
    have n2 : n ≤ 10 := by omega
    clear i1 i2
    have hcall := arePermutations_any (n : Int) A n c a w ha hn hr
    cases h1 : tB (allPerm (n : Int) a) with
    | false =>
      have H := Lib.hid (show tB (Square a) = false from tB_no fun hh => by
        rw [tB_yes (p := allPerm (n : Int) a) fun i hi => ?_] at h1
        · cases h1
        · have := (HS.out.1 hh).2.1 i hi
          exact ⟨by rw [this.1, hla.out], by rw [this.1, hla.out]; omega, this.2⟩)
      rw [h1] at hcall
      clear h1
      go_enter Try.func18, Try.ntmps18
      go_wp2_with (first | (go_at_call 48; refine (sizeR_any _ _ _ _ (by omega)).mono ?_; rintro e w' ⟨rfl, rfl⟩) | (go_at_call 36; refine (within_any _ _ _ _).mono ?_; rintro e w' ⟨rfl, rfl⟩; rw [h0]) | (go_at_call 49; refine hcall.mono ?_; rintro e w1 ⟨rfl, hb1⟩))
      go_ret
      exact ⟨by rw [H.out]; rfl, hb1⟩
    | true =>
      have HT := Lib.hid (show sqRows a n from fun i hi => by
        have := tB_true.1 h1 i (by rw [hla.out]; exact hi)
        exact ⟨by rw [hla.out]; omega, this.2.2⟩)
      rw [h1] at hcall
      clear h1
      go_enter Try.func18, Try.ntmps18
      go_wp2_with (first | (go_at_call 48; refine (sizeR_any _ _ _ _ (by omega)).mono ?_; rintro e w' ⟨rfl, rfl⟩) | (go_at_call 36; refine (within_any _ _ _ _).mono ?_; rintro e w' ⟨rfl, rfl⟩; rw [h0]) | (go_at_call 49; refine hcall.mono ?_; rintro e w1 ⟨rfl, hb1⟩))
      go_loopw [20] (fun i wr => ∃ y : Nat, i = .int .i64 y ∧ y ≤ n ∧ sqCols a y ∧ Below w.heap.size w wr) (fun i _ => n - (intOf i).toNat)
      case atStart => exact ⟨0, rfl, Nat.zero_le _, fun _ h => absurd h (by omega), hb1⟩
      case round =>
        clear hb1 hcall
        obtain ⟨y, rfl, hy, hco, hb⟩ := hrel
        by_cases hlt' : y < n
        · obtain ⟨ws, rfl⟩ : ∃ ws : World, ws = wr := ⟨_, rfl⟩
          go_wp2
          go_loopw [5, 25] (fun v i wr => ∃ (x : Nat) (A' : Option Addr) (c' : Nat), i = .int .i64 x ∧ x ≤ n ∧ v = .slice A' x c' ∧ OI wr w.heap.size 2 A' x c' (colTo a y x) ∧ Below w.heap.size w wr) (fun _ i _ => n - (intOf i).toNat)
          case atStart => exact ⟨0, _, _, rfl, Nat.zero_le _, rfl, OI.nil_ _ _ _, hb⟩
          case round =>
            clear hb
            obtain ⟨x, A', c', rfl, hx, rfl, ho, hb⟩ := hrel
            by_cases hx' : x < n
            · obtain ⟨ad, A1, m1, c1, rfl, hca, hn1, hc1, ha1⟩ := (ha.keep hb).get hx'
              obtain rfl : m1 = n := by rw [← ha1.len, (HT.out x hx').1, hla.out]
              obtain ⟨bd, rfl, hcb, hib⟩ := ha1.get hlt'
              have hst := Lib.hid (colTo_step (a := a) (y := y) (x := x) (by rw [hla.out]; exact hx'))
              go_wp2_with (at_builtin; refine wpList_app1 _ rfl _ _ 30 rfl 2 (.int .i64 0) 8 Try.underlying30 int_info rfl (by omega) w.heap.size A' x c' (ints (colTo a y x)) rfl ho.os (.int .i64 (nth (row a x) y)) rfl rfl (by omega) hb.size ?_; intro A3 c3 w3 ho3 hg3 hn3)
              have hb3 := below_own hb hg3 hb.size (fun b hb => (ho.os.lt hb).1)
              have hi3 := OI.snoc ho3 ho.all (z := nth (row a x) y) hib
              rw [← hst.out] at hi3
              clear ho ho3 hg3 hn3 hca hcb
              go_wp2
              go_roundw
              case rel => exact ⟨x + 1, A3, c3, by go_num, by omega, rfl, hi3, hb3⟩
              case measure => simp [intOf]; omega
            · obtain rfl : x = n := by omega
              have hcl := Lib.hid (show colTo a y x = a.map fun r => nth r y by rw [← hla.out, colTo_all])
              have hlen := Lib.hid (show (colTo a y x).length = x from colTo_len (by rw [hla.out]; exact Nat.le_refl _))
              have hcall := validPermutation_any A' x c' (colTo a y x) _ ho.reads (by omega)
              cases h3 : tB (PermOk (colTo a y x)) with
              | true =>
                have H := Lib.hid (sqCols_step hco (by rw [← hcl.out]; exact (tB_true.1 h3).2))
                rw [h3] at hcall
                clear hco h3
                go_wp2_with (go_at_call 50; refine hcall.mono ?_; rintro e w1 ⟨rfl, hb1⟩)
                go_roundw
                case rel => exact ⟨y + 1, by go_num, by omega, H.out, hb.trans (hb1.mono hb.size)⟩
                case measure => simp [intOf]; omega
              | false =>
                have H := Lib.hid (show tB (Square a) = false from tB_no fun hh => by
                  have := (HS.out.1 hh).2.2 y (by rw [hla.out]; exact hlt')
                  rw [← hcl.out] at this
                  rw [tB_yes ⟨by rw [hlen.out]; omega, this⟩] at h3
                  cases h3)
                rw [h3] at hcall
                clear hco h3
                go_wp2_with (go_at_call 50; refine hcall.mono ?_; rintro e w1 ⟨rfl, hb1⟩)
                go_ret
                exact ⟨by rw [H.out]; rfl, hb.trans (hb1.mono hb.size)⟩
        · have H := Lib.hid (show tB (Square a) = true from tB_yes (HS.out.2 ⟨⟨by rw [hla.out]; exact n1, by rw [hla.out]; exact n2⟩, by rw [hla.out]; exact HT.out, by rw [hla.out]; rwa [show y = n by omega] at hco⟩))
          clear hco
          go_wp2
          go_ret
          exact ⟨by rw [H.out]; rfl, hb⟩
end Go.Proofs.Ytcnjlkabdfcjdaa
/- Plain law: a mate that a search fills cell by cell is orthogonal, and its symbols are transversals. No program in sight. -/
namespace Go.Proofs.Ytcnjlkabdfcjdaa

/-- cells given to the transversals so far: the ones before k whole, k up to row x, the others in row 0 -/
structure MtI (n : Nat) (a M : List (List Int)) (k x : Nat) : Prop where
  len : M.length = n
  row : ∀ i, i < n → (Go.Proofs.Ytcnjlkabdfcjdaa.row M i).length = n
  bd : ∀ i j, i < n → j < n → -1 ≤ atS M i j ∧ atS M i j < (n : Int)
  rd : ∀ i j l, i < n → j < l → l < n → atS M i j ≠ -1 → atS M i j ≠ atS M i l
  cd : ∀ i l j, i < l → l < n → j < n → atS M i j ≠ -1 → atS M i j ≠ atS M l j
  sd : ∀ i l j m, i < l → l < n → j < n → m < n → atS M i j ≠ -1 → atS M i j = atS M l m → atS a i j ≠ atS a l m
  all : ∀ t i, t < n → i < n → (t < k ∨ (t = k ∧ i < x) ∨ i = 0) → ∃ j, j < n ∧ atS M i j = (t : Int)
theorem MtI.turn {n : Nat} {a M : List (List Int)} {k : Nat} (h : MtI n a M k n) (_ : 1 ≤ n) : MtI n a M (k + 1) 1 :=
  ⟨h.len, h.row, h.bd, h.rd, h.cd, h.sd, fun t i ht hi hc => h.all t i ht hi (by omega)⟩
theorem rowM_putS {M : List (List Int)} {x y : Nat} {z : Int} (hx : x < M.length) (i : Nat) : row (putS M x y z) i = if i = x then (row M x).set y z else row M i := row_putS hx i
theorem atM_put {n : Nat} {M : List (List Int)} (hl : M.length = n) (hr : ∀ i, i < n → (row M i).length = n) {x y : Nat} (hx : x < n) (hy : y < n) (z : Int) {i j : Nat} (hi : i < n) (hj : j < n) : atS (putS M x y z) i j = if i = x ∧ j = y then z else atS M i j := by
  unfold atS
  rw [row_putS (by rw [hl]; exact hx)]
  by_cases e : i = x
  · subst e
    rw [if_pos rfl]
    unfold nth
    simp only [List.getD_eq_getElem?_getD, List.getElem?_set]
    by_cases e2 : j = y
    · subst e2
      rw [if_pos rfl, if_pos (by rw [hr i hi]; exact hj)]
      simp
    · rw [if_neg (fun h => e2 h.symm), if_neg (fun h => e2 h.2)]
  · rw [if_neg e, if_neg (fun h => e h.1)]
/-- one cell more -/
theorem MtI.put {n : Nat} {a M : List (List Int)} {k x y : Nat} (h : MtI n a M k x) (hk : k < n) (hx : x < n) (hy : y < n) (hfree : atS M x y = -1)
    (hcol : ∀ i, i < n → atS M i y ≠ (k : Int)) (hsym : ∀ i j, i < n → j < n → atS M i j = (k : Int) → atS a i j ≠ atS a x y) (hrow : ∀ j, j < n → atS M x j ≠ (k : Int)) : MtI n a (putS M x y (k : Int)) k (x + 1) := by
  have at_ := fun {i j} (hi : i < n) (hj : j < n) => atM_put h.len h.row hx hy (k : Int) hi hj
  refine ⟨by unfold putS; rw [List.length_set, h.len], fun i hi => ?_, fun i j hi hj => ?_, fun i j l hi hjl hl => ?_, fun i l j hil hl hj => ?_, fun i l j m hil hl hj hm => ?_, fun t i ht hi hc => ?_⟩
  · rw [row_putS (by rw [h.len]; exact hx)]
    split
    · rw [List.length_set]; exact h.row x hx
    · exact h.row i hi
  · rw [at_ hi hj]
    split
    · omega
    · exact h.bd i j hi hj
  · rw [at_ hi (by omega), at_ hi hl]
    by_cases e1 : i = x ∧ j = y
    · rw [if_pos e1, if_neg (by omega)]
      intro _ e
      exact hrow l hl (by rw [← e1.1]; exact e.symm)
    · rw [if_neg e1]
      by_cases e2 : i = x ∧ l = y
      · rw [if_pos e2]
        intro _ e
        exact hrow j (by omega) (by rw [← e2.1]; exact e)
      · rw [if_neg e2]
        exact h.rd i j l hi hjl hl
  · rw [at_ (by omega) hj, at_ hl hj]
    by_cases e1 : i = x ∧ j = y
    · rw [if_pos e1, if_neg (by omega)]
      intro _ e
      exact hcol l hl (by rw [← e1.2]; exact e.symm)
    · rw [if_neg e1]
      by_cases e2 : l = x ∧ j = y
      · rw [if_pos e2]
        intro _ e
        exact hcol i (by omega) (by rw [← e2.2]; exact e)
      · rw [if_neg e2]
        exact h.cd i l j hil hl hj
  · rw [at_ (by omega) hj, at_ hl hm]
    by_cases e1 : i = x ∧ j = y
    · rw [if_pos e1, if_neg (by omega)]
      intro _ e
      rw [e1.1, e1.2]
      exact fun e2 => hsym l m hl hm e.symm e2.symm
    · rw [if_neg e1]
      by_cases e2 : l = x ∧ m = y
      · rw [if_pos e2, e2.1, e2.2]
        intro _ e
        exact hsym i j (by omega) hj e
      · rw [if_neg e2]
        exact h.sd i l j m hil hl hj hm
  · by_cases e1 : i = x ∧ t = k
    · exact ⟨y, hy, by rw [at_ hi hy, if_pos ⟨e1.1, rfl⟩, e1.2]⟩
    · obtain ⟨j, hj, e⟩ := h.all t i ht hi (by omega)
      refine ⟨j, hj, ?_⟩
      rw [at_ hi hj]
      by_cases e2 : i = x ∧ j = y
      · rw [e2.1, e2.2, hfree] at e; omega
      · rw [if_neg e2]; exact e
/-- all transversals are whole -/
structure MtD (n : Nat) (a M : List (List Int)) : Prop where
  sq : PSq n M
  full : Full n M
  sd : ∀ i l j m, i < l → l < n → j < n → m < n → atS M i j = atS M l m → atS a i j ≠ atS a l m
theorem rows_full {n : Nat} {z : List Int} (hl : z.length = n) (h : ∀ t, t < n → ∃ j, j < n ∧ nth z j = (t : Int)) : ∀ j, j < n → nth z j ≠ -1 := fun j hj e => by
  have hsub : (List.range n).map (fun (t : Nat) => (t : Int)) ⊆ z.eraseIdx j := fun u hu => by
    obtain ⟨t, ht, rfl⟩ := List.mem_map.1 hu
    obtain ⟨i, hi, e2⟩ := h t (List.mem_range.1 ht)
    have hne : i ≠ j := fun e3 => by rw [e3, e] at e2; omega
    rw [List.mem_eraseIdx_iff_getElem]
    exact ⟨i, by omega, hne, by rw [← nth_get (by omega)]; exact e2⟩
  have hnd : ((List.range n).map fun (t : Nat) => (t : Int)).Nodup := by
    rw [List.Nodup, List.pairwise_map]
    exact List.pairwise_lt_range.imp fun h => by omega
  have := List.Nodup.length_le_of_subset hnd hsub
  rw [List.length_map, List.length_range, List.length_eraseIdx_of_lt (by omega)] at this
  omega
theorem MtI.done {n : Nat} {a M : List (List Int)} {k x : Nat} (h : MtI n a M k x) (hk : n ≤ k ∨ n = 1) : MtD n a M := by
  have hall : ∀ t i, t < n → i < n → ∃ j, j < n ∧ atS M i j = (t : Int) := fun t i ht hi => h.all t i ht hi (by omega)
  have hf : Full n M := fun i j hi hj => rows_full (h.row i hi) (fun t ht => hall t i ht hi) j hj
  exact ⟨⟨h.len, h.row, h.bd, h.rd, h.cd⟩, hf, fun i l j m hil hl hj hm => h.sd i l j m hil hl hj hm (hf i j (by omega) hj)⟩
end Go.Proofs.Ytcnjlkabdfcjdaa
