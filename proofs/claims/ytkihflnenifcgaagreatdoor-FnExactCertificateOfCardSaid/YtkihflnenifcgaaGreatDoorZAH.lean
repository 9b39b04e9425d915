/-
  DERIVED: THE SHELF's CONTRACTS AT THIS DUMP, IN PLAIN WORDS (tools/lay-plain.mjs out of 'YtkihflnenifcgaaGreatDoorLay5X.lean', which tools/lay-shelf.mjs wrote): THE SAME DECLARATIONS UNDER THE SAME NAMES: 'import', 'namespace', 'open', 'def', 'theorem' AND NOTHING ELSE: no command of the shelf's: FOR A HAND-IN. Each laying: the table of numbers ('.._ren') and one theorem, a field a fact of the dump's own or the kernel's comparison; each contract: ONE APPLICATION.
-/
import Derived.Shelf.SlGeneric
import Derived.Shelf.Strings.OnBuilder
import Derived.Shelf.Strconv.Itoa4
import Derived.Test.YtkihflnenifcgaaGreatDoorProg
import Derived.Lib.Join
import Derived.Lib.ItoaNum
import Derived.Test.YtkihflnenifcgaaGreatDoorZAA
import Derived.Test.YtkihflnenifcgaaGreatDoorZAD
import Derived.Test.YtkihflnenifcgaaGreatDoorZAB
import Derived.Test.YtkihflnenifcgaaGreatDoorZAG
import Derived.Test.YtkihflnenifcgaaGreatDoorZAF
set_option linter.unusedVariables false
set_option linter.unusedSimpArgs false
namespace Go.Proofs
open Go.Shelf
def Tryz.strJ_ren : Go.Shelf.Ren := ⟨fun | 156 => 30 | 165 => 58 | 166 => 59 | 169 => 60 | 240 => 86 | 241 => 87 | 276 => 119 | 277 => 120 | n => n, fun | 31 => 66 | 9 => 9 | 3 => 3 | 4 => 4 | 0 => 0 | 20 => 20 | 72 => 97 | 76 => 101 | 70 => 95 | 37 => 22 | 75 => 100 | 127 => 122 | 164 => 149 | 5 => 5 | 80 => 103 | n => n, fun | n => n⟩
theorem Tryz.strJ : Go.Proofs.Lays.n156 Tryz.prog Tryz.strJ_ren := {
  mixed := by kernel_rfl
  f156 := Tryz.func30.trans (congrArg some (by kernel_rfl))
  f165 := Tryz.func58.trans (congrArg some (by kernel_rfl))
  f166 := Tryz.func59.trans (congrArg some (by kernel_rfl))
  f169 := Tryz.func60.trans (congrArg some (by kernel_rfl))
  f240 := Tryz.func86.trans (congrArg some (by kernel_rfl))
  f241 := Tryz.func87.trans (congrArg some (by kernel_rfl))
  f276 := Tryz.func119.trans (congrArg some (by kernel_rfl))
  f277 := Tryz.func120.trans (congrArg some (by kernel_rfl))
  t0 := Tryz.underlying0
  a0 := Tryz.isAgg0
  z0 := Tryz.sizeOf0
  v0 := Tryz.zeroValue0
  t3 := Tryz.underlying3
  a3 := Tryz.isAgg3
  z3 := Tryz.sizeOf3
  v3 := Tryz.zeroValue3
  t4 := Tryz.underlying4
  a4 := Tryz.isAgg4
  z4 := Tryz.sizeOf4
  v4 := Tryz.zeroValue4
  t9 := Tryz.underlying9
  a9 := Tryz.isAgg9
  z9 := Tryz.sizeOf9
  v9 := Tryz.zeroValue9
  t20 := Tryz.underlying20
  a20 := Tryz.isAgg20
  z20 := Tryz.sizeOf20
  v20 := Tryz.zeroValue20
  t31 := Tryz.underlying66
  a31 := Tryz.isAgg66
  z31 := Tryz.sizeOf66
  v31 := Tryz.zeroValue66
  t37 := Tryz.underlying22
  a37 := Tryz.isAgg22
  z37 := Tryz.sizeOf22
  v37 := Tryz.zeroValue22
  t70 := Tryz.underlying95
  a70 := Tryz.isAgg95
  z70 := Tryz.sizeOf95
  v70 := Tryz.zeroValue95
  t72 := Tryz.underlying97
  a72 := Tryz.isAgg97
  z72 := Tryz.sizeOf97
  v72 := Tryz.zeroValue97
  t75 := Tryz.underlying100
  a75 := Tryz.isAgg100
  z75 := Tryz.sizeOf100
  v75 := Tryz.zeroValue100
  t76 := Tryz.underlying101
  a76 := Tryz.isAgg101
  z76 := Tryz.sizeOf101
  v76 := Tryz.zeroValue101
  t127 := Tryz.underlying122
  a127 := Tryz.isAgg122
  z127 := Tryz.sizeOf122
  v127 := Tryz.zeroValue122
  t164 := Tryz.underlying149
  a164 := Tryz.isAgg149
  z164 := Tryz.sizeOf149
  v164 := Tryz.zeroValue149 }
def Tryz.fmtI_ren : Go.Shelf.Ren := ⟨fun | 173 => 54 | 246 => 84 | 283 => 115 | 284 => 116 | 285 => 117 | 286 => 118 | 129 => 113 | 317 => 141 | 318 => 142 | 319 => 143 | 320 => 144 | 337 => 162 | 338 => 163 | n => n, fun | 2 => 2 | 3 => 3 | 9 => 9 | 4 => 4 | 171 => 145 | 0 => 0 | 53 => 79 | 37 => 22 | 5 => 5 | 173 => 147 | 212 => 168 | 51 => 141 | 20 => 20 | 213 => 169 | 46 => 119 | 232 => 188 | 233 => 189 | n => n, fun | 17 => 0 | 18 => 2 | 19 => 3 | n => n⟩
theorem Tryz.fmtI : Go.Proofs.Lays.n173 Tryz.prog Tryz.fmtI_ren := {
  mixed := by kernel_rfl
  f129 := Tryz.func113.trans (congrArg some (by kernel_rfl))
  f173 := Tryz.func54.trans (congrArg some (by kernel_rfl))
  f246 := Tryz.func84.trans (congrArg some (by kernel_rfl))
  f283 := Tryz.func115.trans (congrArg some (by kernel_rfl))
  f284 := Tryz.func116.trans (congrArg some (by kernel_rfl))
  f285 := Tryz.func117.trans (congrArg some (by kernel_rfl))
  f286 := Tryz.func118.trans (congrArg some (by kernel_rfl))
  f317 := Tryz.func141.trans (congrArg some (by kernel_rfl))
  f318 := Tryz.func142.trans (congrArg some (by kernel_rfl))
  f319 := Tryz.func143.trans (congrArg some (by kernel_rfl))
  f320 := Tryz.func144.trans (congrArg some (by kernel_rfl))
  f337 := Tryz.func162.trans (congrArg some (by kernel_rfl))
  f338 := Tryz.func163.trans (congrArg some (by kernel_rfl))
  t0 := Tryz.underlying0
  a0 := Tryz.isAgg0
  z0 := Tryz.sizeOf0
  v0 := Tryz.zeroValue0
  t2 := Tryz.underlying2
  a2 := Tryz.isAgg2
  z2 := Tryz.sizeOf2
  v2 := Tryz.zeroValue2
  t3 := Tryz.underlying3
  a3 := Tryz.isAgg3
  z3 := Tryz.sizeOf3
  v3 := Tryz.zeroValue3
  t4 := Tryz.underlying4
  a4 := Tryz.isAgg4
  z4 := Tryz.sizeOf4
  v4 := Tryz.zeroValue4
  t5 := Tryz.underlying5
  a5 := Tryz.isAgg5
  z5 := Tryz.sizeOf5
  v5 := Tryz.zeroValue5
  t9 := Tryz.underlying9
  a9 := Tryz.isAgg9
  z9 := Tryz.sizeOf9
  v9 := Tryz.zeroValue9
  t20 := Tryz.underlying20
  a20 := Tryz.isAgg20
  z20 := Tryz.sizeOf20
  v20 := Tryz.zeroValue20
  t37 := Tryz.underlying22
  a37 := Tryz.isAgg22
  z37 := Tryz.sizeOf22
  v37 := Tryz.zeroValue22
  t46 := Tryz.underlying119
  a46 := Tryz.isAgg119
  z46 := Tryz.sizeOf119
  v46 := Tryz.zeroValue119
  t51 := Tryz.underlying141
  a51 := Tryz.isAgg141
  z51 := Tryz.sizeOf141
  v51 := Tryz.zeroValue141
  t53 := Tryz.underlying79
  a53 := Tryz.isAgg79
  z53 := Tryz.sizeOf79
  v53 := Tryz.zeroValue79
  t171 := Tryz.underlying145
  a171 := Tryz.isAgg145
  z171 := Tryz.sizeOf145
  v171 := Tryz.zeroValue145
  t173 := Tryz.underlying147
  a173 := Tryz.isAgg147
  z173 := Tryz.sizeOf147
  v173 := Tryz.zeroValue147
  t212 := Tryz.underlying168
  a212 := Tryz.isAgg168
  z212 := Tryz.sizeOf168
  v212 := Tryz.zeroValue168
  t213 := Tryz.underlying169
  a213 := Tryz.isAgg169
  z213 := Tryz.sizeOf169
  t232 := Tryz.underlying188
  a232 := Tryz.isAgg188
  z232 := Tryz.sizeOf188
  v232 := Tryz.zeroValue188
  t233 := Tryz.underlying189
  a233 := Tryz.isAgg189
  z233 := Tryz.sizeOf189
  v233 := Tryz.zeroValue189
  g17 := by kernel_rfl
  g18 := by kernel_rfl
  g19 := by kernel_rfl }
end Go.Proofs
/- Plain law: texts that are joined, small numbers' numerals. No program in sight. -/
namespace Go.Proofs.YtkihflnenifcgaaGreatDoor

theorem join_snoc (x sep : List UInt8) : ∀ xs : List (List UInt8), xs ≠ [] → Lib.join (xs ++ [x]) sep = Lib.join xs sep ++ sep ++ x
  | [], h => absurd rfl h
  | [y], _ => by simp [Lib.join, List.intercalate]
  | y :: z :: r, _ => by
    have ih := join_snoc x sep (z :: r) (by simp)
    simp only [Lib.join, List.intercalate, List.cons_append, List.intersperse_cons_cons, List.flatten_cons, List.append_assoc] at ih ⊢
    rw [ih]
/-- a small number's numeral -/
def dcS (z : Int) : ByteArray := ⟨(Lib.decDigits z.toNat).toArray⟩
theorem dc_one (n : Nat) (h : n < 10) : Lib.decDigits n = [UInt8.ofNat (48 + n)] := by rw [Lib.decDigits, dif_pos h]
theorem dc_two (n : Nat) (h : n < 100) (h2 : 10 ≤ n) : Lib.decDigits n = [UInt8.ofNat (48 + n / 10), UInt8.ofNat (48 + n % 10)] := by
  rw [Lib.decDigits, dif_neg (by omega), dc_one _ (by omega)]
  rfl
theorem dc_len (n : Nat) (h : n < 100) : (Lib.decDigits n).length ≤ 2 := by
  by_cases h1 : n < 10
  · rw [dc_one n h1]; simp
  · rw [dc_two n h (by omega)]; simp
/-- strings as bytes -/
def bts (ss : List ByteArray) : List (List UInt8) := ss.map (·.data.toList)
def joinS (ss : List ByteArray) (sep : ByteArray) : ByteArray := ⟨(Lib.join (bts ss) sep.data.toList).toArray⟩
def comma : ByteArray := ⟨#[44]⟩
def minus : ByteArray := ⟨#[45]⟩
def semi : ByteArray := ⟨#[59]⟩
/-- a list's text -/
def listT (zs : List Int) : ByteArray := if zs = [] then minus else joinS (zs.map dcS) comma
/-- an edge's text -/
def edgeT (e : Int × Int) : ByteArray := dcS e.1 ++ minus ++ dcS e.2
/-- a graph's text -/
def graphT (cs : List Int) (es : List (Int × Int)) : ByteArray := listT cs ++ semi ++ joinS (es.map edgeT) comma
theorem join_size (sep : List UInt8) (k : Nat) : ∀ xs : List (List UInt8), (∀ x ∈ xs, x.length ≤ k) → (Lib.join xs sep).length ≤ xs.length * (k + sep.length)
  | [], _ => by simp [Lib.join_nil]
  | [y], h => by
    have := h y (by simp)
    rw [Lib.join_one, List.length_singleton]
    omega
  | y :: z :: r, h => by
    have ih := join_size sep k (z :: r) fun x hx => h x (List.mem_cons_of_mem _ hx)
    have := h y (by simp)
    simp only [Lib.join, List.intercalate, List.intersperse_cons_cons, List.flatten_cons, List.length_append, List.length_cons, Nat.succ_mul] at ih ⊢
    omega
end Go.Proofs.YtkihflnenifcgaaGreatDoor
/- Texts: numerals and joined texts, by the library's contracts. No condition beyond those stated. -/
namespace Go.Proofs.YtkihflnenifcgaaGreatDoor
open Go.RowKit Go.Shelf

theorem bExtra : Builder.Extra Tryz.prog Tryz.strJ_ren where
  sizeBuilder := by kernel_rfl
  liesBuilder := by kernel_rfl
  t5 := Tryz.underlying5
  a5 := Tryz.isAgg5
  z5 := Tryz.sizeOf5
  v5 := Tryz.zeroValue5
  infoByte := by kernel_rfl
  cellsByte := by kernel_rfl
  sizeByte := by kernel_rfl
  neB5 := by decide
/-- strings in memory of a call's own -/
def strV (ss : List ByteArray) : List Value := ss.map Value.string
theorem strV_at {ss : List ByteArray} {j : Nat} {x : ByteArray} (h : ss[j]? = some x) : (strV ss)[j]? = some (.string x) := by simp [strV, h]
theorem strV_len (ss : List ByteArray) : (strV ss).length = ss.length := by simp [strV]
theorem join_any (B : Nat) (A : Option Addr) (n c : Nat) (ss : List ByteArray) (sep : ByteArray) (w : World) (h : OS w B 9 1 A n c (strV ss)) (hn : n ≤ 140737488355328) (hl : (Lib.join (bts ss) sep.data.toList).length ≤ 140737488355328) :
    Calls Tryz.prog 30 #[.slice A n c, .string sep] w fun e w' => e = .returned (.string (joinS ss sep)) ∧ Below w.heap.size w w' := by
  have hln : ss.length = n := by have := h.len; rw [strV_len] at this; omega
  rcases Nat.eq_zero_or_pos n with rfl | hpos
  · obtain rfl : ss = [] := List.length_eq_zero_iff.1 hln
    refine (Any.strings_Join_none Tryz.strJ bExtra A c sep w).mono ?_
    rintro e w' ⟨rfl, rfl⟩
    exact ⟨rfl, Below.refl _ _⟩
  · obtain ⟨g, rfl, hg1, hg2⟩ := h.form hpos
    subst hln
    exact Any.strings_Join Tryz.strJ bExtra g 0 c ss sep w (fun j x hx => by
      obtain ⟨g', e, hc, -⟩ := h.cell (strV_at hx)
      injection e with e
      injection e with e
      subst e
      rw [Nat.zero_add]
      exact hc) hg2 hn h.cap.1 hl
theorem formatInt_any (z : Int) (h0 : 0 ≤ z) (h1 : z < 100) (w : World) :
    Calls Tryz.prog 54 #[.int .i64 z, .int .i64 10] w fun e w' => e = .returned (.string (dcS z)) ∧ w' = w := by
  obtain ⟨i, rfl⟩ := Int.eq_ofNat_of_zero_le h0
  exact Any.strconv_FormatInt_10_small Tryz.fmtI i (by omega) w
set_option maxHeartbeats 1000000 in
theorem decimal_any (z : Int) (h0 : 0 ≤ z) (h1 : z < 100) (w : World) :
    Calls Tryz.prog 28 #[.int .i64 z] w fun e w' => e = .returned (.string (dcS z)) ∧ w' = w := by
  have hc := formatInt_any z h0 h1
  go_enter Tryz.func28, Tryz.ntmps28
  go_wp2_with (go_at_call 54; refine (hc _).mono ?_; rintro e w' ⟨rfl, rfl⟩)
  go_ret
  exact ⟨rfl, rfl⟩
end Go.Proofs.YtkihflnenifcgaaGreatDoor
/- Whether a number lies between two others: what the function of each side returns. No condition. -/
namespace Go.Proofs.YtkihflnenifcgaaGreatDoor
open Go.RowKit

set_option maxHeartbeats 400000 in
theorem l00In_any (a lo hi : Int) (w : World) :
    Calls Tryz.prog 89 #[.int .i64 a, .int .i64 lo, .int .i64 hi] w fun e w' => e = .returned (.bool (inB a lo hi)) ∧ w = w' := by
  go_enter Tryz.func89, Tryz.ntmps89
  go_wp2
  · go_ret
    have h : lo ≤ a := by assumption
    exact ⟨by simp [inB, h], rfl⟩
  · go_ret
    have h : a < lo := by assumption
    exact ⟨by simp [inB, show ¬ lo ≤ a by omega], rfl⟩
set_option maxHeartbeats 400000 in
theorem within_any (a lo hi : Int) (w : World) :
    Calls Tryz.prog 57 #[.int .i64 a, .int .i64 lo, .int .i64 hi] w fun e w' => e = .returned (.bool (inB a lo hi)) ∧ w = w' := by
  go_enter Tryz.func57, Tryz.ntmps57
  go_wp2
  · go_ret
    have h : lo ≤ a := by assumption
    exact ⟨by simp [inB, h], rfl⟩
  · go_ret
    have h : a < lo := by assumption
    exact ⟨by simp [inB, show ¬ lo ≤ a by omega], rfl⟩
end Go.Proofs.YtkihflnenifcgaaGreatDoor
/- Lists compared, and rising lists, on both sides. No condition beyond those stated. -/
namespace Go.Proofs.YtkihflnenifcgaaGreatDoor
open Go.RowKit

def sgnI (x y : Int) : Int := if x < y then -1 else if y < x then 1 else 0
set_option maxHeartbeats 400000 in
theorem isNaN_any (x : Int) (w : World) : Calls Tryz.prog 102 #[.int .i64 x] w fun e w' => e = .returned (.bool false) ∧ w = w' := by
  go_enter Tryz.func102, Tryz.ntmps102
  go_wp2
  go_ret
  exact ⟨ret_bool (by simp), rfl⟩
set_option maxHeartbeats 400000 in
theorem cmpCompare_any (x y : Int) (w : World) : Calls Tryz.prog 77 #[.int .i64 x, .int .i64 y] w fun e w' => e = .returned (.int .i64 (sgnI x y)) ∧ w = w' := by
  by_cases h1 : x < y
  · have H := Lib.hid (show sgnI x y = -1 by simp [sgnI, h1])
    go_enter Tryz.func77, Tryz.ntmps77
    go_wp2_with (go_at_call 102; refine (isNaN_any _ _).mono ?_; rintro e w' ⟨rfl, rfl⟩)
    go_ret
    exact ⟨by rw [H.out]; rfl, rfl⟩
  · by_cases h2 : y < x
    · have H := Lib.hid (show sgnI x y = 1 by simp [sgnI, h1, h2])
      have h1' : y ≤ x := by omega
      go_enter Tryz.func77, Tryz.ntmps77
      go_wp2_with (go_at_call 102; refine (isNaN_any _ _).mono ?_; rintro e w' ⟨rfl, rfl⟩)
      go_ret
      exact ⟨by rw [H.out]; rfl, rfl⟩
    · have H := Lib.hid (show sgnI x y = 0 by simp [sgnI, h1, h2])
      go_enter Tryz.func77, Tryz.ntmps77
      go_wp2_with (go_at_call 102; refine (isNaN_any _ _).mono ?_; rintro e w' ⟨rfl, rfl⟩)
      go_ret
      exact ⟨by rw [H.out]; rfl, rfl⟩
set_option maxHeartbeats 1000000 in
theorem slicesCompare_any (A B : Option Addr) (n m c d : Nat) (xs ys : List Int) (w : World) (ha : RI w A n xs) (hb : RI w B m ys) (hn : n ≤ 9223372036854775807) (hm : m ≤ 9223372036854775807) :
    Calls Tryz.prog 98 #[.slice A n c, .slice B m d] w fun e w' => e = .returned (.int .i64 (cmpL xs ys)) ∧ w = w' := by
  have hla := Lib.hid ha.len
  have hlb := Lib.hid hb.len
  go_enter Tryz.func98, Tryz.ntmps98
  go_wp2
  go_loop [11] (fun i => ∃ k : Nat, k ≤ n ∧ i = .int .i64 k ∧ agree xs ys k) (fun i => n - (intOf i).toNat)
  case atStart => exact ⟨0, Nat.zero_le _, rfl, agree_zero _ _⟩
  case round =>
    obtain ⟨k, hk, rfl, hag⟩ := hrel
    by_cases hlt : k < n
    · obtain ⟨a, rfl, hca, hia⟩ := ha.get hlt
      by_cases hltm : k < m
      · obtain ⟨b, rfl, hcb, hib⟩ := hb.get hltm
        have l1 : k < xs.length := by rw [hla.out]; exact hlt
        have l2 : k < ys.length := by rw [hlb.out]; exact hltm
        by_cases h1 : nth xs k < nth ys k
        · have H := Lib.hid (cmpL_lt hag l1 l2 h1)
          have HS := Lib.hid (show sgnI (nth xs k) (nth ys k) = -1 by simp [sgnI, h1])
          clear hag h1 l1 l2
          go_wp2_with (go_at_call 77; refine (cmpCompare_any _ _ _).mono ?_; rintro e w' ⟨rfl, rfl⟩; rw [HS.out])
          go_ret
          exact ⟨by rw [H.out]; rfl, rfl⟩
        · by_cases h2 : nth ys k < nth xs k
          · have H := Lib.hid (cmpL_gt hag l1 l2 h2)
            have HS := Lib.hid (show sgnI (nth xs k) (nth ys k) = 1 by simp [sgnI, h1, h2])
            clear hag h1 h2 l1 l2
            go_wp2_with (go_at_call 77; refine (cmpCompare_any _ _ _).mono ?_; rintro e w' ⟨rfl, rfl⟩; rw [HS.out])
            go_ret
            exact ⟨by rw [H.out]; rfl, rfl⟩
          · have H := Lib.hid (agree_step hag l1 l2 (by omega))
            have HS := Lib.hid (show sgnI (nth xs k) (nth ys k) = 0 by simp [sgnI, h1, h2])
            clear hag h1 h2 l1 l2
            go_wp2_with (go_at_call 77; refine (cmpCompare_any _ _ _).mono ?_; rintro e w' ⟨rfl, rfl⟩; rw [HS.out])
            go_round
            case rel => exact ⟨k + 1, by omega, by go_num, H.out⟩
            case measure => simp [intOf]; omega
      · have hkm : m ≤ k := by omega
        have H := Lib.hid (show cmpL xs ys = 1 by
          have : k = m := by have := hag.2.1; rw [hlb.out] at this; omega
          refine cmpL_long ?_ (by rw [hla.out, hlb.out]; omega)
          rw [hlb.out, ← this]; exact hag)
        clear hag
        go_wp2
        go_ret
        exact ⟨by rw [H.out]; rfl, rfl⟩
    · obtain rfl : k = n := by omega
      by_cases hltm : k < m
      · have H := Lib.hid (show cmpL xs ys = -1 from cmpL_short (by rw [hla.out]; exact hag) (by rw [hla.out, hlb.out]; exact hltm))
        clear hag
        go_wp2
        go_ret
        exact ⟨by rw [H.out]; rfl, rfl⟩
      · have hkm : m ≤ k := by omega
        have H := Lib.hid (show cmpL xs ys = 0 from cmpL_same (by rw [hla.out]; exact hag) (by rw [hla.out, hlb.out]; have := hag.2.1; rw [hlb.out] at this; omega))
        clear hag
        go_wp2
        go_ret
        exact ⟨by rw [H.out]; rfl, rfl⟩
set_option maxHeartbeats 1000000 in
theorem compareLists_any (A B : Option Addr) (n m c d : Nat) (xs ys : List Int) (w : World) (ha : RI w A n xs) (hb : RI w B m ys) (hn : n ≤ 9223372036854775807) (hm : m ≤ 9223372036854775807) :
    Calls Tryz.prog 145 #[.slice A n c, .slice B m d] w (Quiet w (.int .i64 (cmpL xs ys))) := by
  have hla := Lib.hid ha.len
  have hlb := Lib.hid hb.len
  go_enter Tryz.func145, Tryz.ntmps145
  go_wp2
  go_loopw [5] (fun i wr => ∃ k : Nat, k ≤ n ∧ i = .int .i64 k ∧ Drawn w wr ∧ agree xs ys k) (fun i _ => n - (intOf i).toNat)
  case atStart => exact ⟨0, Nat.zero_le _, rfl, Drawn.refl _, agree_zero _ _⟩
  case round =>
    obtain ⟨k, hk, rfl, hd, hag⟩ := hrel
    by_cases hlt : k < n
    · obtain ⟨a, rfl, hca, hia⟩ := (ha.drawn hd).get hlt
      by_cases hltm : k < m
      · obtain ⟨b, rfl, hcb, hib⟩ := (hb.drawn hd).get hltm
        have l1 : k < xs.length := by rw [hla.out]; exact hlt
        have l2 : k < ys.length := by rw [hlb.out]; exact hltm
        by_cases h1 : nth xs k < nth ys k
        · have H := Lib.hid (cmpL_lt hag l1 l2 h1)
          clear hag l1 l2
          go_wp2
          go_quiet (fail)
          go_wp2
          go_ret
          exact ⟨by rw [H.out]; rfl, hd.more _⟩
        · have h1' : nth ys k ≤ nth xs k := by omega
          by_cases h2 : nth ys k < nth xs k
          · have H := Lib.hid (cmpL_gt hag l1 l2 h2)
            clear hag l1 l2
            go_wp2
            go_quiet (fail)
            go_wp2
            go_quiet (fail)
            go_wp2
            go_ret
            exact ⟨by rw [H.out]; rfl, by first | exact hd.more _ | exact (hd.more _).more _⟩
          · have h2' : nth xs k ≤ nth ys k := by omega
            have H := Lib.hid (agree_step hag l1 l2 (by omega))
            clear hag l1 l2
            go_wp2
            go_quiet (fail)
            go_wp2
            go_quiet (fail)
            go_wp2
            go_roundw
            case rel => exact ⟨k + 1, by omega, by go_num, by first | exact hd.more _ | exact (hd.more _).more _, H.out⟩
            case measure => simp [intOf]; omega
      · have hkm : m ≤ k := by omega
        have hmn : m < n := by omega
        have H := Lib.hid (show cmpL xs ys = 1 by
          have : k = m := by have := hag.2.1; rw [hlb.out] at this; omega
          refine cmpL_long ?_ (by rw [hla.out, hlb.out]; omega)
          rw [hlb.out, ← this]; exact hag)
        clear hag
        go_wp2
        go_ret
        exact ⟨by rw [H.out]; rfl, hd⟩
    · obtain rfl : k = n := by omega
      by_cases hltm : k < m
      · have H := Lib.hid (show cmpL xs ys = -1 from cmpL_short (by rw [hla.out]; exact hag) (by rw [hla.out, hlb.out]; exact hltm))
        clear hag
        go_wp2
        go_ret
        exact ⟨by rw [H.out]; rfl, hd⟩
      · have hkm : m ≤ k := by omega
        have hkm2 : k ≤ m := by have := hag.2.1; rw [hlb.out] at this; omega
        have H := Lib.hid (show cmpL xs ys = 0 from cmpL_same (by rw [hla.out]; exact hag) (by rw [hla.out, hlb.out]; omega))
        clear hag
        go_wp2
        go_ret
        exact ⟨by rw [H.out]; rfl, hd⟩

/-- the first k places rise -/
def risesTo (z : List Int) (lo hi : Int) (k : Nat) : Prop := (∀ j, j < k → lo ≤ nth z j ∧ nth z j ≤ hi) ∧ ∀ j, j + 1 < k → nth z j < nth z (j + 1)
theorem risesTo_zero (z : List Int) (lo hi : Int) : risesTo z lo hi 0 := ⟨fun _ h => absurd h (by omega), fun _ h => absurd h (by omega)⟩
theorem risesTo_step {z : List Int} {lo hi : Int} {k : Nat} (h : risesTo z lo hi k) (h1 : lo ≤ nth z k ∧ nth z k ≤ hi) (h2 : 0 < k → nth z (k - 1) < nth z k) : risesTo z lo hi (k + 1) :=
  ⟨fun j hj => by
    rcases Nat.lt_succ_iff_lt_or_eq.1 hj with h' | h'
    · exact h.1 j h'
    · rw [h']; exact h1,
   fun j hj => by
    rcases Nat.lt_succ_iff_lt_or_eq.1 hj with h' | h'
    · exact h.2 j h'
    · have := h2 (by omega)
      have e : k = j + 1 := h'.symm
      subst e
      simpa using this⟩
theorem risesTo_all {z : List Int} {lo hi : Int} {k : Nat} (hk : z.length = k) (h : risesTo z lo hi k) : Rises z lo hi := ⟨by rw [hk]; exact h.1, by rw [hk]; exact h.2⟩
end Go.Proofs.YtkihflnenifcgaaGreatDoor
/- Sorted lists, plain: a list of n numbers is a permutation of 0 to n - 1 just if it is that in order. No program in sight. -/
namespace Go.Proofs.YtkihflnenifcgaaGreatDoor

def srt (zs : List Int) : List Int := zs.mergeSort fun x y => decide (x ≤ y)
theorem srt_perm (zs : List Int) : (srt zs).Perm zs := List.mergeSort_perm _ _
theorem srt_len (zs : List Int) : (srt zs).length = zs.length := (srt_perm zs).length_eq
theorem srt_le (zs : List Int) : (srt zs).Pairwise fun x y => x ≤ y := by
  have h := List.pairwise_mergeSort (le := fun x y : Int => decide (x ≤ y)) (fun a b c h1 h2 => by simp at *; omega) (fun a b => by simp; omega) zs
  exact h.imp fun h => by simpa using h
theorem srt_mono {zs : List Int} {i j : Nat} (h : i ≤ j) (hj : j < zs.length) : nth (srt zs) i ≤ nth (srt zs) j := by
  have hl := srt_len zs
  rcases Nat.eq_or_lt_of_le h with rfl | h'
  · exact Int.le_refl _
  · have := List.pairwise_iff_getElem.1 (srt_le zs) i j (by omega) (by omega) h'
    rwa [nth_get (by omega), nth_get (by omega)]
theorem nodup_ne {zs : List Int} (h : ∀ i j, i < j → j < zs.length → nth zs i ≠ nth zs j) : zs.Nodup := by
  rw [List.Nodup, List.pairwise_iff_getElem]
  intro i j hi hj hij
  have := h i j hij hj
  rwa [nth_get hi, nth_get hj] at this
theorem ne_nodup {zs : List Int} (h : zs.Nodup) : ∀ i j, i < j → j < zs.length → nth zs i ≠ nth zs j := fun i j hij hj => by
  rw [List.Nodup, List.pairwise_iff_getElem] at h
  have := h i j (by omega) hj hij
  rwa [nth_get (by omega), nth_get hj]
theorem mem_nth {zs : List Int} {x : Int} (h : x ∈ zs) : ∃ k, k < zs.length ∧ nth zs k = x := by
  obtain ⟨k, hk, rfl⟩ := List.mem_iff_getElem.1 h
  exact ⟨k, hk, nth_get hk⟩
theorem nth_mem {zs : List Int} {k : Nat} (h : k < zs.length) : nth zs k ∈ zs := by
  rw [nth_get h]
  exact List.getElem_mem h
def inOrder (zs : List Int) : Prop := ∀ k, k < zs.length → nth (srt zs) k = (k : Int)
theorem perm_inOrder {zs : List Int} (h : Perm zs) : inOrder zs := by
  have hl := srt_len zs
  have hnd : (srt zs).Nodup := (srt_perm zs).nodup_iff.2 (nodup_ne h.ne)
  have hne := ne_nodup hnd
  have hbd : ∀ k, k < zs.length → 0 ≤ nth (srt zs) k ∧ nth (srt zs) k < zs.length := fun k hk => by
    have hm : nth (srt zs) k ∈ zs := (srt_perm zs).mem_iff.1 (nth_mem (by omega))
    obtain ⟨j, hj, e⟩ := mem_nth hm
    rw [← e]
    exact h.bd j hj
  have hup : ∀ k, k + 1 < zs.length → nth (srt zs) k < nth (srt zs) (k + 1) := fun k hk => by
    have h1 := srt_mono (zs := zs) (i := k) (j := k + 1) (by omega) hk
    have h2 := hne k (k + 1) (by omega) (by omega)
    omega
  have hlo : ∀ k, k < zs.length → (k : Int) ≤ nth (srt zs) k := by
    intro k
    induction k with
    | zero => intro hk; exact (hbd 0 hk).1
    | succ k ih => intro hk; have := ih (by omega); have := hup k hk; omega
  have hhi : ∀ j k, k + 1 + j = zs.length → nth (srt zs) k ≤ (k : Int) := by
    intro j
    induction j with
    | zero => intro k hk; have := (hbd k (by omega)).2; omega
    | succ j ih => intro k hk; have := ih (k + 1) (by omega); have := hup k (by omega); omega
  intro k hk
  have := hlo k hk
  have := hhi (zs.length - 1 - k) k (by omega)
  omega
theorem inOrder_perm {zs : List Int} (h : inOrder zs) : Perm zs := by
  have hl := srt_len zs
  refine ⟨fun k hk => ?_, ?_⟩
  · have hm : nth zs k ∈ srt zs := (srt_perm zs).mem_iff.2 (nth_mem hk)
    obtain ⟨j, hj, e⟩ := mem_nth hm
    rw [← e, h j (by omega)]
    omega
  · refine ne_nodup ((srt_perm zs).nodup_iff.1 (nodup_ne fun i j hij hj => ?_))
    rw [h i (by omega), h j (by omega)]
    omega
theorem perm_iff (zs : List Int) : Perm zs ↔ inOrder zs := ⟨perm_inOrder, inOrder_perm⟩
end Go.Proofs.YtkihflnenifcgaaGreatDoor
