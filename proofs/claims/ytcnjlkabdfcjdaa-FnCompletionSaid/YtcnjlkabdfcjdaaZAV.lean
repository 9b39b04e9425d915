/- Completions: CountCompletions up to one, and FillCell. No condition beyond those stated. -/
import Derived.Test.YtcnjlkabdfcjdaaZAU
import Derived.Test.YtcnjlkabdfcjdaaProg
import Derived.Test.YtcnjlkabdfcjdaaZAA
import Derived.Test.YtcnjlkabdfcjdaaZAC
import Derived.Test.YtcnjlkabdfcjdaaZAP
import Derived.Test.YtcnjlkabdfcjdaaZAI
import Derived.Test.YtcnjlkabdfcjdaaZAO
set_option linter.unusedVariables false
set_option linter.unusedSimpArgs false
namespace Go.Proofs.Ytcnjlkabdfcjdaa
open Go.RowKit

/-- what CountCompletions answers: its code, its number -/
noncomputable def ctK (p : List (List Int)) (b : Int) : Int := if tB (PartOk p) then (if inB b 1 20000 then (if (clR p 1 b.toNat).spent then 5 else 0) else 2) else 1
noncomputable def ctN (p : List (List Int)) (b : Int) : Int := if ctK p b = 0 then ((clR p 1 b.toNat).count : Nat) else 0
def RetCT (w : World) (p : List (List Int)) (b : Int) (e : Ending) (w' : World) : Prop := e = .returned (.tuple #[.int .i64 (ctN p b), .int .i64 (ctK p b)]) ∧ Below w.heap.size w w'
theorem RetCT.no {w w' : World} {p : List (List Int)} {b c : Int} (hb : Below w.heap.size w w') (hk : ctK p b = c) (hc : c ≠ 0) : RetCT w p b (.returned (.tuple #[.int .i64 0, .int .i64 c])) w' :=
  ⟨by rw [ctN, hk, if_neg hc], hb⟩
set_option maxRecDepth 100000 in
set_option maxHeartbeats 4000000 in
theorem countCompletions_any (A : Option Addr) (n c : Nat) (p : List (List Int)) (b : Int) (w : World) (ha : RR w A n p) (hn : n ≤ c) (hc : c ≤ 9223372036854775807) :
    Calls Try.prog 17 #[.slice A n c, .int .i64 1, .int .i64 b] w (RetCT w p b) := by
  have hval := validPartial_any A n c p w ha hn hc
  have hj : inB 1 1 1000 = true := rfl
  cases hv : tB (PartOk p) with
  | false =>
    rw [hv] at hval
    have HK := Lib.hid (show ctK p b = 1 by rw [ctK, hv]; rfl)
    go_enter Try.func17, Try.ntmps17
    go_wp2_with (go_at_call 46; refine hval.mono ?_; rintro e w2 ⟨rfl, hb2⟩)
    go_ret2
    exact RetCT.no hb2 HK.out (by decide)
  | true =>
    rw [hv] at hval
    cases hi : inB b 1 20000 with
    | false =>
      have HK := Lib.hid (show ctK p b = 2 by rw [ctK, hv, hi]; rfl)
      go_enter Try.func17, Try.ntmps17
      go_wp2_with (first | (go_at_call 46; refine hval.mono ?_; rintro e w2 ⟨rfl, hb2⟩) | (go_at_call 35; refine (isBudget_any _ _).mono ?_; rintro e w3 ⟨rfl, rfl⟩; rw [hi]))
      go_ret2
      exact RetCT.no hb2 HK.out (by decide)
    | true =>
      have hp := tB_true.1 hv
      have hbb := inB_true hi
      obtain ⟨b', rfl⟩ : ∃ l' : Nat, b = (l' : Int) := ⟨b.toNat, by omega⟩
      have hcs := fun w2 (h : RR w2 A n p) => completions_any A n c p 1 b' w2 h hp (by omega) (by omega) (by omega)
      have HK := Lib.hid (show ctK p (b' : Int) = if (clR p 1 b').spent then 5 else 0 by rw [ctK, hv, hi]; rfl)
      have HF := Lib.hid (show ctK p (b' : Int) = 0 → ctN p (b' : Int) = ((clR p 1 b').count : Nat) from fun h => by rw [ctN, if_pos h]; rfl)
      clear hbb hp hv
      generalize clR p 1 b' = R at *
      obtain ⟨rl, rs, rc, rf⟩ := R
      simp only [] at HK HF
      go_enter Try.func17, Try.ntmps17
      go_wp2_with (first | (go_at_call 46; refine hval.mono ?_; rintro e w2 ⟨rfl, hb2⟩) | (go_at_call 35; refine (isBudget_any _ _).mono ?_; rintro e w3 ⟨rfl, rfl⟩; rw [hi]) | (go_at_call 36; refine (within_any _ _ _ _).mono ?_; rintro e w3 ⟨rfl, rfl⟩; rw [hj]))
      refine (hcs w2 (ha.keep hb2)).mono ?_
      rintro e w3 ⟨g, y2, y3, FA, fn, fk, rfl, X, ho, hb3⟩
      have hb4 := hb2.trans (hb3.mono hb2.size)
      have x1 : w3.cell? ⟨g, 1, none⟩ = some (.bool rs) := X.cell 1
      have x5 : w3.cell? ⟨g, 5, none⟩ = some (.int .i64 (rc : Int)) := X.cell 5
      clear X hcs hval hb2 hb3 ho
      cases rs with
      | true =>
        have HK2 := Lib.hid (show ctK p (b' : Int) = 5 from HK.out)
        go_wp2
        go_ret2
        exact RetCT.no hb4 HK2.out (by decide)
      | false =>
        have HK2 := Lib.hid (show ctK p (b' : Int) = 0 from HK.out)
        go_wp2
        go_ret2
        exact ⟨by rw [HF.out HK2.out, HK2.out]; rfl, hb4⟩
/-- what FillCell answers -/
def RetFC (w : World) (p : List (List Int)) (x y : Nat) (z : Int) (e : Ending) (w' : World) : Prop :=
  ∃ A n c k, e = .returned (.tuple #[.slice A n c, .int .i64 k]) ∧ Below w.heap.size w w' ∧ (k = 0 → atS p x y = -1 ∧ z ∈ candP p x y ∧ OR w' w.heap.size 30 2 A n c (putS p x y z))
set_option maxRecDepth 100000 in
set_option maxHeartbeats 2000000 in
theorem emptyCell_any (A : Option Addr) (n c x y : Nat) (p : List (List Int)) (w : World) (ha : RR w A n p) (hn : n ≤ c) (hc : c ≤ 9223372036854775807) (hp : PartOk p) (hx : x < n) (hy : y < n) :
    Calls Try.prog 52 #[.slice A n c, .int .i64 x, .int .i64 y] w fun e w' => e = .returned (.int .i64 (if atS p x y = -1 then 0 else 6)) ∧ Below w.heap.size w w' := by
  have hval := validPartial_any A n c p w ha hn hc
  rw [tB_yes hp] at hval
  have hl := ha.len
  have hn10 : n ≤ 10 := by have := hp.2.1; omega
  have hrx := hp.2.2.row x (by omega)
  have h1 : inB (x : Int) 0 ((n : Int) - 1) = true := inB_mk (by omega)
  have h2 : inB (y : Int) 0 ((n : Int) - 1) = true := inB_mk (by omega)
  have hw : IntKind.i64.wrap ((n : Int) - 1) = (n : Int) - 1 := by rw [IntKind.wrap_i64]; omega
  obtain ⟨ad, RX, rn, rc, rfl, hcx, hrn, hrc, hRX⟩ := ha.get hx
  have hrl := hRX.len
  obtain rfl : rn = n := by omega
  obtain ⟨ay, rfl, hcy, hiy⟩ := hRX.get hy
  by_cases h0 : atS p x y = -1
  · rw [if_pos h0]
    have e : nth (row p x) y = -1 := h0
    rw [e] at hcy
    clear h0 e hiy hrx hrl hl hp
    go_enter Try.func52, Try.ntmps52
    go_wp2_with (first | (go_at_call 46; refine hval.mono ?_; rintro e w2 ⟨rfl, hb2⟩; have hcx2 := below_cell hb2 hcx; have hcy2 := below_cell hb2 hcy) | (go_at_call 48; refine (sizeR_any _ _ _ _ (by omega)).mono ?_; rintro e w3 ⟨rfl, rfl⟩) | (go_at_call 36; refine (within_any _ _ _ _).mono ?_; rintro e w3 ⟨rfl, rfl⟩; first | rw [h1] | rw [h2]))
    go_ret
    exact ⟨rfl, hb2⟩
  · rw [if_neg h0]
    have e : (nth (row p x) y != -1) = true := by simp; exact h0
    generalize nth (row p x) y = z at *
    clear h0 hiy hrx hrl hl hp
    go_enter Try.func52, Try.ntmps52
    go_wp2_with (first | (go_at_call 46; refine hval.mono ?_; rintro e w2 ⟨rfl, hb2⟩; have hcx2 := below_cell hb2 hcx; have hcy2 := below_cell hb2 hcy) | (go_at_call 48; refine (sizeR_any _ _ _ _ (by omega)).mono ?_; rintro e w3 ⟨rfl, rfl⟩) | (go_at_call 36; refine (within_any _ _ _ _).mono ?_; rintro e w3 ⟨rfl, rfl⟩; first | rw [h1] | rw [h2]))
    go_ret
    exact ⟨rfl, hb2⟩
set_option maxRecDepth 100000 in
set_option maxHeartbeats 2000000 in
theorem fillCell_any (A : Option Addr) (n c x y : Nat) (z : Int) (p : List (List Int)) (w : World) (ha : RR w A n p) (hn : n ≤ c) (hc : c ≤ 9223372036854775807) (hp : PartOk p) (hx : x < n) (hy : y < n) :
    Calls Try.prog 21 #[.slice A n c, .int .i64 x, .int .i64 y, .int .i64 z] w (RetFC w p x y z) := by
  have hem := emptyCell_any A n c x y p w ha hn hc hp hx hy
  have hl := ha.len
  have hn10 : n ≤ 10 := by have := hp.2.1; omega
  have hcl := psq_cells hp.2.2 hp.2.1
  by_cases h0 : atS p x y = -1
  · rw [if_pos h0] at hem
    have HRW : ∀ r ∈ p, y < r.length := fun r hr => by rw [hp.2.2.rows r hr]; omega
    have hcd := fun w2 (h : RR w2 A n p) => candidates_any A n c x y p w2 h (by omega) hx HRW
    have HPX := Lib.hid (hp.2.2.row x (by omega))
    have HZ := Lib.hid (fun (h : z ∈ candP p x y) => (show I64 z by
      have := (candP_mem hp.2.2 (by omega : x < p.length)).1 h
      unfold I64
      omega))
    have H0 := Lib.hid h0
    have HL := Lib.hid hl
    clear h0 hp HRW hl
    go_enter Try.func21, Try.ntmps21
    go_wp2_with (go_at_call 52; refine hem.mono ?_; rintro e w2 ⟨rfl, hb2⟩)
    refine (hcd w2 (ha.keep hb2)).mono ?_
    rintro e w3 ⟨LA, ln, lc, rfl, hol, hb3⟩
    have hb4 := hb2.trans (hb3.mono hb2.size)
    have hle := candTo_le p x y p.length
    rw [candTo_all] at hle
    have hol2 := hol.len
    have hct := containsI_any LA ln lc (candP p x y) z w3 hol.reads (by have := HL.out; omega)
    clear hcd hb2 hb3 hle hol2
    cases hm : memB (candP p x y) z with
    | false =>
      rw [hm] at hct
      clear hm
      go_wp2_with (go_at_call 53; refine hct.mono ?_; rintro e w5 ⟨rfl, rfl⟩)
      go_ret2
      exact ⟨none, 0, 0, 4, rfl, hb4, fun h => absurd h (by decide)⟩
    | true =>
      rw [hm] at hct
      have HM := Lib.hid (memB_true.1 hm)
      have hz64 := HZ.out HM.out
      clear hm
      go_wp2_with (go_at_call 53; refine hct.mono ?_; rintro e w5 ⟨rfl, rfl⟩)
      refine (copyLists_any A n c p w3 (ha.keep hb4) (by omega) hcl).mono ?_
      rintro e w6 ⟨B, m, d, rfl, ho, hb6⟩
      have hb7 := hb4.trans (hb6.mono hb4.size)
      obtain ⟨vs, hov⟩ := ho.more hb4.size
      obtain rfl : m = n := by rw [← HL.out, hov.slen]
      obtain ⟨gs, r, rm, rk, rfl, co, fo, hm2, mle, k1, ci, fi, br, rl, iz, hset⟩ := hov.at2 hx (j := y) (by rw [HPX.out, HL.out]; exact hy)
      have hs := Lib.hid (hset z hz64)
      have hb8 := Lib.hid (hb7.setCell (p := ⟨r, y, none⟩) br (.int .i64 z))
      have hyr : y < rm := by have := HPX.out; have := HL.out; omega
      clear hset ho hct hol hb6 hm2
      go_wp2
      go_ret2
      exact ⟨_, _, _, 0, rfl, hb8.out, fun _ => ⟨H0.out, HM.out, ⟨vs, hs.out⟩⟩⟩
  · rw [if_neg h0] at hem
    clear h0
    go_enter Try.func21, Try.ntmps21
    go_wp2_with (go_at_call 52; refine hem.mono ?_; rintro e w2 ⟨rfl, hb2⟩)
    go_ret2
    exact ⟨none, 0, 0, 6, rfl, hb2, fun h => absurd h (by decide)⟩
end Go.Proofs.Ytcnjlkabdfcjdaa
/- What the drawn laws share: lengths of inputs, numbers chosen by bytes, numbers looked for in a list. No condition beyond those stated. -/
namespace Go.Proofs.Ytcnjlkabdfcjdaa
open Go.RowKit

set_option maxHeartbeats 400000 in
theorem b10Long_yes (A : Option Addr) (n c : Nat) (w : World) (hn : 1048576 < n) : Calls Try.prog 7 #[.slice A n c] w fun e w' => e = .returned (.bool true) ∧ w = w' := by
  have h : (n : Int) > 1048576 := by omega
  go_enter Try.func7, Try.ntmps7
  go_wp2
  go_ret
  exact ⟨by simp, rfl⟩
set_option maxHeartbeats 400000 in
theorem b10Long_no (A : Option Addr) (n c : Nat) (w : World) (hn : n ≤ 1048576) : Calls Try.prog 7 #[.slice A n c] w fun e w' => e = .returned (.bool false) ∧ w = w' := by
  have h : ¬ (n : Int) > 1048576 := by omega
  go_enter Try.func7, Try.ntmps7
  go_wp2
  go_ret
  exact ⟨by simp, rfl⟩
/-- the number that a byte chooses, or its index behind the end -/
def atP (zs : List Int) (i k : Int) : Int := if k ≤ 1 then 0 else if i < zs.length then nth zs i.toNat % k else (i * 37 + 11) % k
theorem atP_bd {zs : List Int} {i k : Int} (h : 1 ≤ k) : 0 ≤ atP zs i k ∧ atP zs i k < k := by
  unfold atP
  split
  · omega
  · split
    · exact ⟨Int.emod_nonneg _ (by omega), Int.emod_lt_of_pos _ (by omega)⟩
    · exact ⟨Int.emod_nonneg _ (by omega), Int.emod_lt_of_pos _ (by omega)⟩
set_option maxHeartbeats 1000000 in
theorem b10At_any (A : Option Addr) (n c : Nat) (zs : List Int) (i : Nat) (k : Int) (w : World) (ha : RS EByte w A n zs) (hi2 : i ≤ 1000000) (hk2 : k ≤ 1000000) (hn : n ≤ 9223372036854775807) :
    Calls Try.prog 20 #[.slice A n c, .int .i64 i, .int .i64 k] w fun e w' => e = .returned (.int .i64 (atP zs i k)) ∧ w = w' := by
  have hla := Lib.hid ha.len
  by_cases h0 : k ≤ 1
  · have HA := Lib.hid (show atP zs i k = 0 by rw [atP, if_pos h0])
    go_enter Try.func20, Try.ntmps20
    go_wp2
    go_ret
    exact ⟨by rw [HA.out]; rfl, rfl⟩
  · by_cases hlt : i < n
    · have HA := Lib.hid (show atP zs i k = nth zs i % k by rw [atP, if_neg h0, if_pos (by rw [hla.out]; omega), Int.toNat_natCast])
      obtain ⟨ad, u, x, rfl, hx, hc, rfl, x0, x1⟩ := ha.get hlt
      have HX := Lib.hid (nth_eq hx)
      have h0' : 1 < k := by omega
      clear hx h0
      go_enter Try.func20, Try.ntmps20
      go_wp2
      go_ret
      exact ⟨by rw [HA.out, HX.out]; rfl, rfl⟩
    · have HA := Lib.hid (show atP zs i k = ((i : Int) * 37 + 11) % k by rw [atP, if_neg h0, if_neg (by rw [hla.out]; omega)])
      have h0' : 1 < k := by omega
      have hge : n ≤ i := by omega
      clear h0
      go_enter Try.func20, Try.ntmps20
      go_wp2
      go_ret
      exact ⟨by rw [HA.out]; rfl, rfl⟩
end Go.Proofs.Ytcnjlkabdfcjdaa
/- What the drawn laws ask of squares: one keeps another's symbols, its numbers in a row. No condition beyond those stated. -/
namespace Go.Proofs.Ytcnjlkabdfcjdaa
open Go.RowKit

set_option maxHeartbeats 800000 in
theorem b10Square_yes (A : Option Addr) (n c : Nat) (a : List (List Int)) (w : World) (ha : RR w A n a) (hn : n ≤ 1000) (hs : ∀ i, i < n → (row a i).length = n) :
    Calls Try.prog 51 #[.slice A n c, .int .i64 n] w (fun e w' => e = .returned (.bool true) ∧ w = w') := by
  have HS := Lib.hid hs
  clear hs
  go_enter Try.func51, Try.ntmps51
  go_wp2
  go_loopw [5] (fun i wr => ∃ k : Nat, k ≤ n ∧ i = .int .i64 k ∧ w = wr) (fun i _ => n - (intOf i).toNat)
  case atStart => exact ⟨0, Nat.zero_le _, rfl, by trivial⟩
  case round =>
    obtain ⟨k, hk, rfl, rfl⟩ := hrel
    by_cases hlt : k < n
    · obtain ⟨ad, RX, rn, rc, rfl, hcx, hrn, hrc, hRX⟩ := ha.get hlt
      obtain rfl : rn = n := by rw [← hRX.len]; exact HS.out k hlt
      go_wp2
      go_roundw
      case rel => exact ⟨k + 1, by omega, by go_num, by trivial⟩
      case measure => simp [intOf]; omega
    · go_wp2
      go_ret
      exact ⟨rfl, rfl⟩
set_option maxRecDepth 100000 in
set_option maxHeartbeats 2000000 in
theorem b10Keeps_yes (A : Option Addr) (n c : Nat) (p : List (List Int)) (B : Option Addr) (d : Nat) (a : List (List Int)) (w : World) (hp : RR w A n p) (ha : RR w B n a) (hn : n ≤ 1000) (hs : ∀ i, i < n → (row p i).length = n) (ht : ∀ i, i < n → (row a i).length = n)
    (hk : ∀ x y, x < n → y < n → 0 ≤ atS p x y → atS p x y = atS a x y) :
    Calls Try.prog 19 #[.slice A n c, .slice B n d] w (Quiet w (.bool true)) := by
  have HS := Lib.hid hs
  have HT := Lib.hid ht
  have HK := Lib.hid hk
  have h1 := b10Square_yes A n c p w hp hn hs
  have h2 := b10Square_yes B n d a w ha hn ht
  clear hs ht hk
  go_enter Try.func19, Try.ntmps19
  go_wp2_with (fail)
  refine h1.mono ?_
  rintro e w' ⟨rfl, rfl⟩
  go_wp2_with (fail)
  refine h2.mono ?_
  rintro e w' ⟨rfl, rfl⟩
  clear h1 h2
  go_wp2
  go_loopw [6, 7] (fun i _ wr => ∃ k : Nat, k ≤ n ∧ i = .int .i64 k ∧ Drawn w wr) (fun i _ _ => n - (intOf i).toNat)
  case atStart => exact ⟨0, Nat.zero_le _, rfl, Drawn.refl _⟩
  case round =>
    obtain ⟨x, hx, rfl, hd⟩ := hrel
    by_cases hlt : x < n
    · go_wp2
      go_loopw [7] (fun i wr => ∃ k : Nat, k ≤ n ∧ i = .int .i64 k ∧ Drawn w wr) (fun i _ => n - (intOf i).toNat)
      case atStart => exact ⟨0, Nat.zero_le _, rfl, hd⟩
      case round =>
        clear hd
        obtain ⟨y, hy, rfl, hd⟩ := hrel
        by_cases hyl : y < n
        · obtain ⟨ad, RX, rn, rc, rfl, hcx, hrn, hrc, hRX⟩ := (hp.drawn hd).get hlt
          obtain rfl : rn = n := by rw [← hRX.len]; exact HS.out x hlt
          obtain ⟨bd, RY, sn, sc, rfl, hcy, hsn, hsc, hRY⟩ := (ha.drawn hd).get hlt
          obtain rfl : sn = rn := by rw [← hRY.len]; exact HT.out x hlt
          obtain ⟨ax, rfl, hcz, -⟩ := hRX.get hyl
          obtain ⟨ay, rfl, hcu, -⟩ := hRY.get hyl
          have hkk := HK.out x y hlt hyl
          unfold atS at hkk
          generalize nth (row p x) y = z1 at *
          generalize nth (row a x) y = z2 at *
          by_cases h0 : z1 ≥ 0
          · have e := hkk h0
            subst e
            have hd0 : decide (z1 ≥ 0) = true := by simp; omega
            clear hkk h0
            go_wp2
            go_quiet (fail)
            go_wp2
            go_roundw
            case rel => exact ⟨y + 1, by omega, by go_num, hd.more _⟩
            case measure => simp [intOf]; omega
          · have hd0 : decide (z1 ≥ 0) = false := by simp; omega
            clear hkk h0
            go_wp2
            go_quiet (fail)
            go_wp2
            go_roundw
            case rel => exact ⟨y + 1, by omega, by go_num, hd.more _⟩
            case measure => simp [intOf]; omega
        · go_wp2
          go_roundw
          case rel => exact ⟨x + 1, by omega, by go_num, hd⟩
          case measure => simp [intOf]; omega
    · go_wp2
      go_ret
      exact ⟨rfl, hd⟩
theorem flat_step (a : List (List Int)) {k : Nat} (h : k < a.length) : (a.take (k + 1)).flatten = (a.take k).flatten ++ row a k := by
  rw [List.take_succ_eq_append_getElem h, List.flatten_append, row_get h]
  simp
theorem flat_take_len (a : List (List Int)) {n : Nat} (h : ∀ i, i < a.length → (row a i).length = n) : ∀ k, k ≤ a.length → (a.take k).flatten.length = k * n
  | 0, _ => by simp
  | k + 1, hk => by
    rw [flat_step a (by omega), List.length_append, flat_take_len a h k (by omega), h k (by omega), Nat.succ_mul]
set_option maxRecDepth 100000 in
set_option maxHeartbeats 2000000 in
theorem b10Flat_any (A : Option Addr) (n c : Nat) (a : List (List Int)) (w : World) (ha : RR w A n a) (hn : n ≤ 1000) (ht : ∀ i, i < n → (row a i).length = n) :
    Calls Try.prog 22 #[.slice A n c] w (fun e w' => ∃ LA ln lc, e = .returned (.slice LA ln lc) ∧ OI w' w.heap.size 2 LA ln lc (flatP a) ∧ Below w.heap.size w w') := by
  have hl := ha.len
  have hfl := flat_take_len a (n := n) (by rw [hl]; exact ht)
  rw [hl] at hfl
  have HT := Lib.hid ht
  have HF := Lib.hid hfl
  have HL := Lib.hid hl
  clear ht hfl hl
  have hb1 := below_alloc w (.cells #[] 2)
  have ho1 : OI (w.alloc (.cells #[] 2)) w.heap.size 2 (some ⟨w.heap.size, 0, none⟩) 0 0 ((a.take 0).flatten) := by simpa [ints] using OI.lit w w.heap.size 2 [] (Nat.le_refl _) (by simp) (by simp [All64])
  go_enter Try.func22, Try.ntmps22
  go_wp2
  go_loopw [3, 4] (fun l i wr => ∃ (k : Nat) (LA : Option Addr) (ln lc : Nat), k ≤ n ∧ i = .int .i64 k ∧ l = .slice LA ln lc ∧ OI wr w.heap.size 2 LA ln lc ((a.take k).flatten) ∧ Below w.heap.size w wr) (fun _ i _ => n - (intOf i).toNat)
  case atStart => exact ⟨0, _, 0, 0, Nat.zero_le _, rfl, rfl, ho1, hb1⟩
  case round =>
    clear ho1 hb1
    obtain ⟨k, LA, ln, lc, hk, rfl, rfl, ho, hb⟩ := hrel
    have hln := ho.len
    rw [HF.out k hk] at hln
    have hkn : k * n ≤ 1000 * 1000 := Nat.mul_le_mul (by omega) hn
    by_cases hlt : k < n
    · obtain ⟨ad, RX, rn, rc, rfl, hcx0, hrn, hrc, hRX⟩ := ha.get hlt
      obtain rfl : rn = n := by rw [← hRX.len]; exact HT.out k hlt
      have hcx := below_cell hb hcx0
      have hRX1 := hRX.keep hb
      have HO := Lib.hid ho
      have HST := Lib.hid (flat_step a (k := k) (by rw [HL.out]; exact hlt))
      have hbs := hb.size
      have hln2 : ln ≤ 1000000 := by omega
      clear ho hln hkn
      go_wp2_with (at_builtin; refine app_ints _ rfl (.tmp 12) (.tmp 16) rfl w.heap.size LA ln lc _ rfl HO.out RX rn rc (row a k) rfl hRX1 (by omega) (by omega) ?_; intro A5 c5 w5 ho5 hg5 hf5; have hb5 := Lib.hid (below_own hb hg5 (by omega) (fun b hb => (HO.out.os.lt hb).1)); rw [← HST.out] at ho5)
      go_roundw
      case rel => exact ⟨k + 1, A5, ln + rn, c5, by omega, by go_num, rfl, ho5, hb5.out⟩
      case measure => simp [intOf]; omega
    · obtain rfl : k = n := by omega
      have HE := Lib.hid (show (a.take k).flatten = flatP a by rw [List.take_of_length_le (by rw [HL.out]; exact Nat.le_refl _)]; rfl)
      go_wp2
      go_ret
      exact ⟨LA, ln, lc, rfl, HE.out ▸ ho, hb⟩
end Go.Proofs.Ytcnjlkabdfcjdaa
/- Plain law of transversals, as the law asks it. No program in sight. -/
namespace Go.Proofs.Ytcnjlkabdfcjdaa

/-- a transversal: columns that are a permutation, and so are the symbols -/
def TransOk (a : List (List Int)) (c : List Int) : Prop := c.length = a.length ∧ PermOk c ∧ PermOk (symT a c)
theorem symT_len (a : List (List Int)) (c : List Int) : (symT a c).length = c.length := by simp [symT]
theorem symT_nth {a : List (List Int)} {c : List Int} {i : Nat} (h : i < c.length) : nth (symT a c) i = nth (row a i) (nth c i).toNat := by
  rw [nth_get (by rw [symT_len]; exact h)]
  simp [symT]
theorem trans_iff {a : List (List Int)} (hq : Square a) (c : List Int) : TransOk a c ↔ PartT a c ∧ c.length = a.length := by
  have hn := hq.2.1
  constructor
  · rintro ⟨h1, h2, h3⟩
    refine ⟨⟨by omega, fun i hi => ?_, fun i j hij hj => h2.2.ne i j hij hj, fun i j hij hj => ?_⟩, h1⟩
    · have := h2.2.bd i hi
      rw [h1] at this
      exact this
    · have := h3.2.ne i j hij (by rw [symT_len]; exact hj)
      rwa [symT_nth (by omega), symT_nth hj] at this
  · rintro ⟨h, hl⟩
    refine ⟨hl, ⟨by omega, ⟨fun k hk => ?_, fun i j hij hj => h.col i j hij hj⟩⟩, ⟨by rw [symT_len]; omega, ⟨fun k hk => ?_, fun i j hij hj => ?_⟩⟩⟩
    · rw [hl]
      exact h.bd k hk
    · rw [symT_len] at hk
      have hb := h.bd k hk
      obtain ⟨r1, r2⟩ := hq.2.2.1 k (by omega)
      have := r2.bd (nth c k).toNat (by rw [r1]; omega)
      rw [symT_nth hk, symT_len, hl]
      rw [r1] at this
      exact this
    · rw [symT_len] at hj
      rw [symT_nth (by omega), symT_nth hj]
      exact h.sym i j hij hj
/-- the search that is not cut off -/
def trR (a : List (List Int)) (lim budget : Nat) : TSt := trS a lim a.length [] ⟨budget, false, []⟩
theorem trR_found {a : List (List Int)} {lim budget : Nat} (hl : 0 < lim) (h : (trR a lim budget).spent = false) : (trR a lim budget).found = (allT a a.length []).take lim := by
  have := trS_found a.length [] ⟨budget, false, []⟩ rfl hl h
  rwa [List.nil_append] at this
/-- what the law asks of the lists that are found -/
structure FoundOk (a : List (List Int)) (lim : Nat) (L : List (List Int)) : Prop where
  len : L.length ≤ lim
  trans : ∀ i, i < L.length → TransOk a (row L i)
  up : ∀ i, i + 1 < L.length → cmpL (row L i) (row L (i + 1)) = -1
  rest : ∀ p, TransOk a p → p ∉ L → L.length = lim ∧ cmpL (row L (lim - 1)) p = -1
theorem found_ok {a : List (List Int)} (hq : Square a) {lim budget : Nat} (hl : 0 < lim) (h : (trR a lim budget).spent = false) : FoundOk a lim (trR a lim budget).found := by
  rw [trR_found hl h]
  have hP := PartT.nil a
  have hs := allT_strict a.length [] hP (by simp)
  have hm := allT_mem a.length [] hP (by simp)
  have neg1 : ∀ x y : List Int, cmpL x y < 0 → cmpL x y = -1 := fun x y h => by have := cmpL_bd x y; omega
  refine ⟨by rw [List.length_take]; omega, fun i hi => ?_, fun i hi => ?_, fun p hp hn => ?_⟩
  · rw [row_get hi]
    have := List.mem_of_mem_take (List.getElem_mem hi)
    obtain ⟨h1, h2, -⟩ := (hm _).1 this
    exact (trans_iff hq _).2 ⟨h1, h2⟩
  · rw [row_get (by omega), row_get hi]
    have := List.pairwise_iff_getElem.1 (List.Pairwise.sublist (List.take_sublist lim _) hs) i (i + 1) (by omega) hi (by omega)
    exact neg1 _ _ this
  · obtain ⟨h1, h2⟩ := (trans_iff hq p).1 hp
    have hpm := (hm p).2 ⟨h1, h2, by simp⟩
    obtain ⟨g1, g2⟩ := first_of hs hpm hn
    exact ⟨g1, neg1 _ _ (g2 (lim - 1) (by omega))⟩
/-- where there is one, one is found -/
theorem found_some {a : List (List Int)} (hq : Square a) {budget : Nat} (h : (trR a 1 budget).spent = false) {p : List Int} (hp : TransOk a p) : (trR a 1 budget).found.length = 1 := by
  have hF := found_ok hq (lim := 1) (by decide) h
  by_cases hm : p ∈ (trR a 1 budget).found
  · have := List.length_pos_of_mem hm
    have := hF.len
    omega
  · exact (hF.rest p hp hm).1
end Go.Proofs.Ytcnjlkabdfcjdaa
