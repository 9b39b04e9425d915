/- All pairs, the pairs that may be added: the program's side. No condition beyond those stated. -/
import Derived.Test.YtncknfhfkmmhbaaGreatZAS
import Derived.Shelf.SlGeneric
import Derived.Shelf.SlSortCmp.Whole1
import Derived.Shelf.SlSortCmp.NoneTotal
import Derived.Ground.SlsfProg
import Derived.Test.YtncknfhfkmmhbaaGreatProg
import Derived.Test.YtncknfhfkmmhbaaGreatZAQ
import Derived.Test.YtncknfhfkmmhbaaGreatZAP
set_option linter.unusedVariables false
set_option linter.unusedSimpArgs false
namespace Go.Proofs.YtncknfhfkmmhbaaGreat
open Go.RowKit

theorem pairs_len {n : Nat} (h1 : 1 ≤ n) (h : n ≤ 5) : (pairsN n).length ≤ 10 := by
  have : n = 1 ∨ n = 2 ∨ n = 3 ∨ n = 4 ∨ n = 5 := by omega
  rcases this with rfl | rfl | rfl | rfl | rfl <;> decide
theorem pairs_first {n : Nat} (h2 : 2 ≤ n) (h : n ≤ 5) : (pairsN n)[0]? = some (0, 1) := by
  have : n = 2 ∨ n = 3 ∨ n = 4 ∨ n = 5 := by omega
  rcases this with rfl | rfl | rfl | rfl <;> decide
/-- all pairs as lists -/
def pairsL (n : Nat) : List (List Int) := (pairsN n).map toL
theorem take_pairs {n j : Nat} {p : Nat × Nat} (h : (pairsN n)[j]? = some p) : ((pairsN n).take (j + 1)).map toL = ((pairsN n).take j).map toL ++ [toL p] := by
  obtain ⟨hj, rfl⟩ := List.getElem?_eq_some_iff.1 h
  rw [List.take_succ_eq_append_getElem hj, List.map_append]
  rfl
theorem nilG (w : World) (B : Nat) : ORv w B 33 2 none 0 0 [] [] := ⟨OS.nil_ _ _ _ _, rfl, fun j u z h => by simp at h, fun i j u x _ h => by simp at h, by decide⟩
/-- the loop's state -/
structure SubS (w wr : World) (n j : Nat) (B : Option Addr) (bc : Nat) (S : Option Addr) (sn sc : Nat) : Prop where
  le : j ≤ (pairsN n).length
  bel : Below w.heap.size w wr
  st : ∃ vs, ORv wr w.heap.size 33 2 B j bc vs (((pairsN n).take j).map toL) ∧ (j < (pairsN n).length → sn = 2 ∧ ∃ p, (pairsN n)[j]? = some p ∧ OI wr w.heap.size 2 S 2 sc (toL p) ∧ ∀ (i : Nat) (u : Sl), vs[i]? = some u → apart u (S, 2, sc))
set_option maxRecDepth 100000 in
set_option maxHeartbeats 4000000 in
theorem allSubsets_any (n : Nat) (w : World) (h1 : 1 ≤ n) (h5 : n ≤ 5) :
    Calls Tryz.prog 37 #[.int .i64 n, .int .i64 2] w (RetR w 33 2 (pairsL n)) := by
  have hpl := pairs_len h1 h5
  go_enter Tryz.func37, Tryz.ntmps37
  go_wp2_with fail
  refine (identity_any 2 w (by omega)).mono ?_
  rintro e w1 ⟨S, sn, sc, rfl, hos, hb1⟩
  have hsn := hos.len
  obtain rfl : sn = 2 := by rw [← hsn]; rfl
  have hiota : iotaP 2 = toL (0, 1) := by decide
  rw [hiota] at hos
  have hst : SubS w w1 n 0 none 0 S 2 sc ∧ (0 < (pairsN n).length ↔ 2 ≤ n) := by
    by_cases h2 : 2 ≤ n
    · have hf := pairs_first h2 h5
      have hl : 0 < (pairsN n).length := (List.getElem?_eq_some_iff.1 hf).1
      refine ⟨⟨Nat.zero_le _, hb1, [], nilG _ _, fun _ => ⟨rfl, _, hf, hos, fun i u h => by simp at h⟩⟩, fun _ => h2, fun _ => hl⟩
    · obtain rfl : n = 1 := by omega
      refine ⟨⟨Nat.zero_le _, hb1, [], nilG _ _, fun h => ?_⟩, fun h => ?_, fun h => by omega⟩
      all_goals
        have : (pairsN 1).length = 0 := by decide
        omega
  obtain ⟨hst, hmo⟩ := hst
  have hm : decide ((2 : Int) ≤ n) = decide (0 < (pairsN n).length) := by
    by_cases h2 : 2 ≤ n
    · rw [decide_eq_true (by omega : (2 : Int) ≤ n), decide_eq_true (hmo.2 h2)]
    · rw [decide_eq_false (by omega : ¬ (2 : Int) ≤ n), decide_eq_false (fun h => h2 (hmo.1 h))]
  generalize hLL : (pairsN n).length = LL at *
  have HLL := Lib.hid hLL
  clear hos hb1 hiota hmo hsn hLL
  go_wp2
  clear hm
  go_loopw [5, 6, 7] (fun lv sv mv wr => ∃ (j : Nat) (B : Option Addr) (bc : Nat) (S : Option Addr) (sn sc : Nat), lv = .slice B j bc ∧ sv = .slice S sn sc ∧ mv = .bool (decide (j < LL)) ∧ SubS w wr n j B bc S sn sc) (fun lv _ _ _ => 64 - lenV lv)
  case atStart => exact ⟨0, none, 0, S, 2, sc, rfl, rfl, rfl, hst⟩
  case round =>
    clear hst
    obtain ⟨j, B, bc, S, sn, sc, rfl, rfl, rfl, hst⟩ := hrel
    by_cases hlt : j < LL
    · obtain ⟨hle, hb, vs, hov, hmore⟩ := hst
      obtain ⟨rfl, p, hp, hos, hap⟩ := hmore (by rw [HLL.out]; exact hlt)
      have hd : decide (j < LL) = true := by simp [hlt]
      rw [hd]
      have hbs := hb.size
      obtain ⟨hp1, hp2, hnx⟩ := chk_at (by
        have hl : 0 < (pairsN n).length := by rw [HLL.out]; omega
        by_cases h2 : 2 ≤ n
        · exact h2
        · obtain rfl : n = 1 := by omega
          have : (pairsN 1).length = 0 := by decide
          omega) h5 hp
      have HOV := Lib.hid hov
      have HST := Lib.hid (take_pairs hp)
      have HNX := Lib.hid hnx
      clear hov hmore hnx hd
      go_wp2_with (at_builtin; refine app_row _ rfl (.tmp 14) (.tmp 16) rfl w.heap.size B j bc vs (((pairsN n).take j).map toL) rfl HOV.out (S, 2, sc) (toL p) hos hap _ rfl rfl (by omega) hbs ?_; intro A4 c4 w4 ho4 hg4 hn4; have hb4 := Lib.hid (below_own hb hg4 hbs (fun b hb => (HOV.out.os.lt hb).1)); rw [← HST.out] at ho4)
      have hri := (hos.kept hg4 (OS.typed hos.os HOV.out.os (by decide))).reads
      have hns := nextSubset_any n p S sc w4 hri hp1 hp2 (by omega)
      refine hns.mono ?_
      rintro e w5 ⟨hb5, hm5⟩
      have hov5 := ho4.below hb5
      have hbw := hb4.out.trans (hb5.mono hb4.out.size)
      rw [HNX.out] at hm5
      cases hq : (pairsN n)[j + 1]? with
      | some q =>
        rw [hq] at hm5
        obtain ⟨D, d, rfl, hod⟩ := hm5
        have hlt2 : j + 1 < LL := by rw [← HLL.out]; exact (List.getElem?_eq_some_iff.1 hq).1
        have hd2 := Lib.hid (show decide (j + 1 < LL) = true by simp [hlt2])
        have hst2 : SubS w w5 n (j + 1) A4 c4 D 2 d := ⟨by rw [HLL.out]; omega, hbw, _, hov5, fun _ => ⟨rfl, q, hq, hod.more hb4.out.size, fun i u hu => ho4.apart_new (v := (D, 2, d)) (fun b hb => (hod.os.lt hb).1) i u hu⟩⟩
        clear hri hns hov5 hos hap HOV ho4
        go_wp2
        go_roundw
        case rel => exact ⟨j + 1, A4, c4, D, 2, d, rfl, rfl, by rw [hd2.out], hst2⟩
        case measure => simp [lenV]; omega
      | none =>
        rw [hq] at hm5
        subst hm5
        have hge : LL ≤ j + 1 := by rw [← HLL.out]; exact List.getElem?_eq_none_iff.1 hq
        have hd2 := Lib.hid (show decide (j + 1 < LL) = false by simp; omega)
        have hst2 : SubS w w5 n (j + 1) A4 c4 none 0 0 := ⟨by rw [HLL.out]; omega, hbw, _, hov5, fun h => by rw [HLL.out] at h; omega⟩
        clear hri hns hov5 hos hap HOV ho4
        go_wp2
        go_roundw
        case rel => exact ⟨j + 1, A4, c4, none, 0, 0, rfl, rfl, by rw [hd2.out], hst2⟩
        case measure => simp [lenV]; omega
    · obtain ⟨hle, hb, vs, hov, -⟩ := hst
      have hd : decide (j < LL) = false := by simp; omega
      rw [hd]
      have hj : j = LL := by rw [HLL.out] at hle; omega
      rw [List.take_of_length_le (by rw [HLL.out]; omega)] at hov
      have HOV := Lib.hid hov
      clear hov
      go_wp2
      go_ret
      exact ⟨B, j, bc, rfl, ⟨vs, HOV.out⟩, hb⟩
end Go.Proofs.YtncknfhfkmmhbaaGreat
/-
  DERIVED: THE SHELF's CONTRACTS AT THIS DUMP, IN PLAIN WORDS (tools/lay-plain.mjs out of 'YtncknfhfkmmhbaaGreatLay7X.lean', which tools/lay-shelf.mjs wrote): THE SAME DECLARATIONS UNDER THE SAME NAMES: 'import', 'namespace', 'open', 'def', 'theorem' AND NOTHING ELSE: no command of the shelf's: FOR A HAND-IN. Each laying: the table of numbers ('.._ren') and one theorem, a field a fact of the dump's own or the kernel's comparison; each contract: ONE APPLICATION.
-/
namespace Go.Proofs
open Go.Shelf
def Tryz.sr3L_ren : Go.Shelf.Ren := ⟨fun | 6 => 27 | 15 => 43 | 14 => 46 | 28 => 68 | 29 => 69 | 20 => 72 | 21 => 73 | 22 => 74 | 23 => 75 | 24 => 76 | 25 => 77 | 26 => 78 | 27 => 79 | 46 => 97 | 47 => 93 | 48 => 94 | 49 => 98 | 50 => 99 | 57 => 109 | n => n, fun | 22 => 44 | 24 => 46 | 25 => 68 | 3 => 3 | 39 => 80 | 0 => 0 | 53 => 112 | 55 => 58 | 4 => 4 | 46 => 105 | 45 => 104 | 50 => 109 | 5 => 5 | 9 => 9 | 66 => 125 | 70 => 129 | 76 => 141 | 77 => 142 | n => n, fun | n => n⟩
theorem Tryz.sr3L : Go.Proofs.SlLaysF.n6 Tryz.prog Tryz.sr3L_ren := {
  mixed := by kernel_rfl
  f6 := ⟨Tryz.f27.name, by decide, Tryz.func27.trans (congrArg some (by kernel_rfl))⟩
  f14 := ⟨Tryz.f46.name, by decide, Tryz.func46.trans (congrArg some (by kernel_rfl))⟩
  f15 := Tryz.func43.trans (congrArg some (by kernel_rfl))
  f20 := ⟨Tryz.f72.name, by decide, Tryz.func72.trans (congrArg some (by kernel_rfl))⟩
  f21 := ⟨Tryz.f73.name, by decide, Tryz.func73.trans (congrArg some (by kernel_rfl))⟩
  f22 := ⟨Tryz.f74.name, by decide, Tryz.func74.trans (congrArg some (by kernel_rfl))⟩
  f23 := ⟨Tryz.f75.name, by decide, Tryz.func75.trans (congrArg some (by kernel_rfl))⟩
  f24 := ⟨Tryz.f76.name, by decide, Tryz.func76.trans (congrArg some (by kernel_rfl))⟩
  f25 := ⟨Tryz.f77.name, by decide, Tryz.func77.trans (congrArg some (by kernel_rfl))⟩
  f26 := ⟨Tryz.f78.name, by decide, Tryz.func78.trans (congrArg some (by kernel_rfl))⟩
  f27 := ⟨Tryz.f79.name, by decide, Tryz.func79.trans (congrArg some (by kernel_rfl))⟩
  f28 := Tryz.func68.trans (congrArg some (by kernel_rfl))
  f29 := Tryz.func69.trans (congrArg some (by kernel_rfl))
  f46 := ⟨Tryz.f97.name, by decide, Tryz.func97.trans (congrArg some (by kernel_rfl))⟩
  f47 := Tryz.func93.trans (congrArg some (by kernel_rfl))
  f48 := Tryz.func94.trans (congrArg some (by kernel_rfl))
  f49 := ⟨Tryz.f98.name, by decide, Tryz.func98.trans (congrArg some (by kernel_rfl))⟩
  f50 := ⟨Tryz.f99.name, by decide, Tryz.func99.trans (congrArg some (by kernel_rfl))⟩
  f57 := ⟨Tryz.f109.name, by decide, Tryz.func109.trans (congrArg some (by kernel_rfl))⟩
  t0 := Tryz.underlying0
  a0 := Tryz.isAgg0
  z0 := Tryz.sizeOf0
  v0 := Tryz.zeroValue0
  t3 := Tryz.underlying3
  a3 := Tryz.isAgg3
  z3 := Tryz.sizeOf3
  v3 := Tryz.zeroValue3
  t4 := Tryz.underlying4
  a4 := Tryz.isAgg4
  z4 := Tryz.sizeOf4
  v4 := Tryz.zeroValue4
  t5 := Tryz.underlying5
  a5 := Tryz.isAgg5
  z5 := Tryz.sizeOf5
  v5 := Tryz.zeroValue5
  t9 := Tryz.underlying9
  a9 := Tryz.isAgg9
  z9 := Tryz.sizeOf9
  v9 := Tryz.zeroValue9
  t22 := Tryz.underlying44
  a22 := Tryz.isAgg44
  z22 := Tryz.sizeOf44
  v22 := Tryz.zeroValue44
  a24 := Tryz.isAgg46
  z24 := Tryz.sizeOf46
  t25 := Tryz.underlying68
  a25 := Tryz.isAgg68
  z25 := Tryz.sizeOf68
  v25 := Tryz.zeroValue68
  t39 := Tryz.underlying80
  a39 := Tryz.isAgg80
  z39 := Tryz.sizeOf80
  v39 := Tryz.zeroValue80
  t45 := Tryz.underlying104
  a45 := Tryz.isAgg104
  z45 := Tryz.sizeOf104
  v45 := Tryz.zeroValue104
  t46 := Tryz.underlying105
  a46 := Tryz.isAgg105
  z46 := Tryz.sizeOf105
  v46 := Tryz.zeroValue105
  t50 := Tryz.underlying109
  a50 := Tryz.isAgg109
  z50 := Tryz.sizeOf109
  v50 := Tryz.zeroValue109
  t53 := Tryz.underlying112
  a53 := Tryz.isAgg112
  z53 := Tryz.sizeOf112
  v53 := Tryz.zeroValue112
  t55 := Tryz.underlying58
  a55 := Tryz.isAgg58
  z55 := Tryz.sizeOf58
  v55 := Tryz.zeroValue58
  t66 := Tryz.underlying125
  a66 := Tryz.isAgg125
  z66 := Tryz.sizeOf125
  v66 := Tryz.zeroValue125
  t70 := Tryz.underlying129
  a70 := Tryz.isAgg129
  z70 := Tryz.sizeOf129
  v70 := Tryz.zeroValue129
  t76 := Tryz.underlying141
  a76 := Tryz.isAgg141
  z76 := Tryz.sizeOf141
  v76 := Tryz.zeroValue141
  t77 := Tryz.underlying142
  a77 := Tryz.isAgg142
  z77 := Tryz.sizeOf142
  v77 := Tryz.zeroValue142 }
end Go.Proofs
/- Slices of slices that only the outer block of is a call's own: what they hold reads the same whatever is done to that block. No condition beyond those stated. -/
namespace Go.Proofs.YtncknfhfkmmhbaaGreat
open Go.RowKit Go.Sort

/-- a slice of numbers, of such slices -/
def RdI (w : World) (v : Sl) (z : List Int) : Prop := v.2.1 ≤ v.2.2 ∧ v.2.2 ≤ 9223372036854775807 ∧ RI w v.1 v.2.1 z
def RdR (w : World) (v : Sl) (z : List (List Int)) : Prop := v.2.1 ≤ v.2.2 ∧ v.2.2 ≤ 9223372036854775807 ∧ RR w v.1 v.2.1 z
structure SV {α : Type} (E : World → Sl → α → Prop) (w : World) (B : Nat) (e : TypeId) (A : Option Addr) (n c : Nat) (vs : List Sl) (l : List α) : Prop where
  os : OS w B e 1 A n c (vs.map slv)
  len : vs.length = l.length
  rd : ∀ (j : Nat) (v : Sl) (x : α), vs[j]? = some v → l[j]? = some x → ∀ w', w.grownBy w' (blk A) → E w' v x
section
variable {α : Type} {E : World → Sl → α → Prop} {w w' : World} {B : Nat} {e : TypeId} {A : Option Addr} {n c : Nat} {vs : List Sl} {l : List α}
theorem SV.nil_ (E : World → Sl → α → Prop) (w : World) (B : Nat) (e : TypeId) : SV E w B e none 0 0 [] ([] : List α) := ⟨OS.nil_ _ _ _ _, rfl, fun j v x h => by simp at h⟩
theorem SV.slen (h : SV E w B e A n c vs l) : l.length = n := by have := h.os.len; have := h.len; simp at *; omega
theorem SV.below (h : SV E w B e A n c vs l) (hb : Below w.heap.size w w') : SV E w' B e A n c vs l :=
  ⟨h.os.below hb, h.len, fun j v x hv hx w'' hg => h.rd j v x hv hx w'' ((grownBy_of_below hb _).trans hg)⟩
theorem SV.more {B' : Nat} (h : SV E w B e A n c vs l) (hB : B' ≤ B) : SV E w B' e A n c vs l := ⟨h.os.more hB, h.len, h.rd⟩
theorem SV.push (h : SV E w B e A n c vs l) {v : Sl} {x : α} (hv : ∀ w'', w.grownBy w'' (blk A) → E w'' v x) {A' : Option Addr} {c' : Nat} (hos : OS w' B e 1 A' (n + 1) c' (vs.map slv ++ [slv v])) (hg : w.grownBy w' (blk A)) (hf : blk A' = blk A ∨ ∃ k, blk A' = some k ∧ w.heap.size ≤ k) :
    SV E w' B e A' (n + 1) c' (vs ++ [v]) (l ++ [x]) := by
  have hback : ∀ w'', w'.grownBy w'' (blk A') → w.grownBy w'' (blk A) := fun w'' h2 => by
    rcases hf with hf | ⟨k, hf, hk⟩
    · rw [hf] at h2; exact hg.trans h2
    · refine ⟨h2.os.trans hg.os, h2.tape.trans hg.tape, h2.output.trans hg.output, Nat.le_trans hg.size h2.size, fun j hj hne => ?_⟩
      rw [h2.block j (Nat.lt_of_lt_of_le hj hg.size) (by rw [hf]; intro e; injection e with e; omega)]
      exact hg.block j hj hne
  refine ⟨by simpa using hos, by simp [h.len], fun j u y hu hy w'' h2 => ?_⟩
  rw [List.getElem?_append] at hu hy
  rw [h.len] at hu
  split at hu
  · rename_i hj
    rw [if_pos hj] at hy
    exact h.rd j u y hu hy w'' (hback w'' h2)
  · rename_i hj
    rw [if_neg hj] at hy
    have e0 : j - l.length = 0 := by
      have := (List.getElem?_eq_some_iff.1 hu).1
      simp at this; omega
    rw [e0] at hu hy
    simp at hu hy
    subst hu; subst hy
    exact hv w'' (hback w'' h2)
theorem SV.at_ (h : SV E w B e A n c vs l) {j : Nat} (hj : j < n) : ∃ g v x, A = some ⟨g, 0, none⟩ ∧ w.cell? ⟨g, j, none⟩ = some (slv v) ∧ w.frozen? ⟨g, j, none⟩ = false ∧ l[j]? = some x ∧ vs[j]? = some v ∧ E w v x := by
  have hl := h.slen
  have h1 : j < vs.length := by rw [h.len]; omega
  have h2 : j < l.length := by omega
  obtain ⟨g, rfl, hc, hf⟩ := h.os.cell (j := j) (u := slv vs[j]) (by simp [h1])
  exact ⟨g, vs[j], l[j], rfl, hc, hf, List.getElem?_eq_getElem h2, List.getElem?_eq_getElem h1, h.rd j _ _ (List.getElem?_eq_getElem h1) (List.getElem?_eq_getElem h2) w (World.grownBy.refl _ _)⟩
end
theorem SV.rr {w : World} {B : Nat} {e : TypeId} {A : Option Addr} {n c : Nat} {vs : List Sl} {l : List (List Int)} (h : SV RdI w B e A n c vs l) : RR w A n l :=
  ⟨h.slen, fun j x hx => by
    have hj : j < n := by rw [← h.slen]; exact (List.getElem?_eq_some_iff.1 hx).1
    obtain ⟨g, v, y, rfl, hc, _, hy, _, h1, h2, h3⟩ := h.at_ hj
    rw [hx] at hy
    injection hy with hy
    subst hy
    exact ⟨_, _, rfl, by rw [Addr.add_lit, Nat.zero_add]; exact hc, v.1, v.2.1, v.2.2, rfl, h1, h2, h3⟩⟩
/-- a slice whose elements are slices of slices of numbers -/
def RR3 (w : World) (A : Option Addr) (n : Nat) (l : List (List (List Int))) : Prop := RS (fun w u x => ∃ v : Sl, u = slv v ∧ RdR w v x) w A n l
theorem SV.rr3 {w : World} {B : Nat} {e : TypeId} {A : Option Addr} {n c : Nat} {vs : List Sl} {l : List (List (List Int))} (h : SV RdR w B e A n c vs l) : RR3 w A n l :=
  ⟨h.slen, fun j x hx => by
    have hj : j < n := by rw [← h.slen]; exact (List.getElem?_eq_some_iff.1 hx).1
    obtain ⟨g, v, y, rfl, hc, _, hy, _, hE⟩ := h.at_ hj
    rw [hx] at hy
    injection hy with hy
    subst hy
    exact ⟨_, _, rfl, by rw [Addr.add_lit, Nat.zero_add]; exact hc, v, rfl, hE⟩⟩
theorem RR3.keep {w w' : World} {A : Option Addr} {n : Nat} {l : List (List (List Int))} (h : RR3 w A n l) (hb : Below w.heap.size w w') : RR3 w' A n l :=
  RS.keep (fun hb ⟨v, hu, h1, h2, h3⟩ => ⟨v, hu, h1, h2, h3.keep hb⟩) h hb
theorem RR3.len {w : World} {A : Option Addr} {n : Nat} {l : List (List (List Int))} (h : RR3 w A n l) : l.length = n := RS.len h
theorem RR3.get {w : World} {A : Option Addr} {n : Nat} {l : List (List (List Int))} (h : RR3 w A n l) {k : Nat} (hk : k < n) : ∃ ad B m c, A = some ad ∧ w.cell? (ad.add k) = some (.slice B m c) ∧ m ≤ c ∧ c ≤ 9223372036854775807 ∧ ∃ x, l[k]? = some x ∧ RR w B m x := by
  obtain ⟨ad, u, x, ha, hx, hc, v, rfl, h1, h2, h3⟩ := RS.get h hk
  exact ⟨ad, v.1, v.2.1, v.2.2, ha, hc, h1, h2, x, hx, h3⟩
/-- own rows: they read the same whatever is done to a block of another kind -/
theorem ORv.stable {w : World} {B : Nat} {A : Option Addr} {n c : Nat} {vs : List Sl} {zss : List (List Int)} (h : ORv w B 33 2 A n c vs zss) {B2 : Nat} {e2 : TypeId} {A2 : Option Addr} {n2 c2 : Nat} {xs : List Value} (k : OS w B2 e2 1 A2 n2 c2 xs) (h1 : 33 ≠ e2) (h2 : 2 ≠ e2) : ∀ w', w.grownBy w' (blk A2) → RdR w' (A, n, c) zss := fun w' hg =>
  ⟨h.os.cap.1, h.os.cap.2, (OR.reads ⟨vs, h.kept hg (OS.typed (h.os.more (Nat.zero_le _)) (k.more (Nat.zero_le _)) h1) (fun j v hv => by
    have hj : j < zss.length := by rw [← h.len]; exact (List.getElem?_eq_some_iff.1 hv).1
    exact OS.typed ((h.rows j v _ hv (List.getElem?_eq_getElem hj)).os.more (Nat.zero_le _)) (k.more (Nat.zero_le _)) h2)⟩)⟩
theorem OI.stable {w : World} {B : Nat} {A : Option Addr} {n c : Nat} {z : List Int} (h : OI w B 2 A n c z) {B2 : Nat} {e2 : TypeId} {A2 : Option Addr} {n2 c2 : Nat} {xs : List Value} (k : OS w B2 e2 1 A2 n2 c2 xs) (h2 : 2 ≠ e2) : ∀ w', w.grownBy w' (blk A2) → RdI w' (A, n, c) z := fun w' hg =>
  ⟨h.os.cap.1, h.os.cap.2, (h.kept hg (OS.typed (h.os.more (Nat.zero_le _)) (k.more (Nat.zero_le _)) h2)).reads⟩
theorem ORv.sv {w : World} {B : Nat} {A : Option Addr} {n c : Nat} {vs : List Sl} {zss : List (List Int)} (h : ORv w B 33 2 A n c vs zss) : SV RdI w B 33 A n c vs zss :=
  ⟨h.os, h.len, fun j v x hv hx w' hg => (h.rows j v x hv hx).stable h.os (by decide) w' hg⟩
section
variable {ops : Array Oper} {rest : List Oper} {o : Oper} {a : Act} {Q : Exit → Act → World → Prop}
theorem sys_info : (Tryz.prog.info? 46).map (fun i => (i.zero, i.size, i.bytes)) = some (some (.slice none 0 0), 1, 24) := by kernel_rfl
theorem app_sv (w : World) (hgd : o.guard = none) (s x : Operand) (ho : o.op = .call { callee := .builtin .append, args := #[s, x], argTypes := #[46, 46] })
    (B : Nat) (A : Option Addr) (n c : Nat) (vs : List Sl) (l : List (List Int)) (hs : a.eval s = .slice A n c) (hown : SV RdI w B 33 A n c vs l) (v : Sl) (z : List Int) (hv : ∀ w'', w.grownBy w'' (blk A) → RdI w'' v z)
    (g : Nat) (hx : a.eval x = .slice (some ⟨g, 0, none⟩) 1 1) (hgx : g = w.heap.size) (hbig : n + 1 ≤ 2199023255552) (hB : B ≤ w.heap.size)
    (h : ∀ A' c' w', SV RdI w' B 33 A' (n + 1) c' (vs ++ [v]) (l ++ [z]) → w.grownBy w' (blk A) → (blk A' = blk A ∨ ∃ k, blk A' = some k ∧ w.heap.size ≤ k) → wpList Tryz.prog ops Q rest (a.put o.dst (.slice A' (n + 1) c')) w') :
    wpList Tryz.prog ops Q (o :: rest) a (w.alloc (.cells #[.slice v.1 v.2.1 v.2.2] 33)) :=
  wpList_app1' w hgd s x 46 ho 33 (.slice none 0 0) 24 Tryz.underlying46 ints_info rfl (by omega) B A n c (vs.map slv) hs hown.os (.slice v.1 v.2.1 v.2.2) g hx hgx rfl hbig hB
    fun A' c' w' h1 h2 h3 => h A' c' w' (hown.push hv h1 h2 h3) h2 h3
theorem app_sv3 (w : World) (hgd : o.guard = none) (s x : Operand) (ho : o.op = .call { callee := .builtin .append, args := #[s, x], argTypes := #[44, 44] })
    (B : Nat) (A : Option Addr) (n c : Nat) (vs : List Sl) (l : List (List (List Int))) (hs : a.eval s = .slice A n c) (hown : SV RdR w B 46 A n c vs l) (v : Sl) (z : List (List Int)) (hv : ∀ w'', w.grownBy w'' (blk A) → RdR w'' v z)
    (g : Nat) (hx : a.eval x = .slice (some ⟨g, 0, none⟩) 1 1) (hgx : g = w.heap.size) (hbig : n + 1 ≤ 2199023255552) (hB : B ≤ w.heap.size)
    (h : ∀ A' c' w', SV RdR w' B 46 A' (n + 1) c' (vs ++ [v]) (l ++ [z]) → w.grownBy w' (blk A) → (blk A' = blk A ∨ ∃ k, blk A' = some k ∧ w.heap.size ≤ k) → wpList Tryz.prog ops Q rest (a.put o.dst (.slice A' (n + 1) c')) w') :
    wpList Tryz.prog ops Q (o :: rest) a (w.alloc (.cells #[.slice v.1 v.2.1 v.2.2] 46)) :=
  wpList_app1' w hgd s x 44 ho 46 (.slice none 0 0) 24 Tryz.underlying44 sys_info rfl (by omega) B A n c (vs.map slv) hs hown.os (.slice v.1 v.2.1 v.2.2) g hx hgx rfl hbig hB
    fun A' c' w' h1 h2 h3 => h A' c' w' (hown.push hv h1 h2 h3) h2 h3
end
end Go.Proofs.YtncknfhfkmmhbaaGreat
