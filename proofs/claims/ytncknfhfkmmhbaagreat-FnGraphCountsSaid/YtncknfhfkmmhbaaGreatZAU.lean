/- Pairs that may be added to a system: the program's side. No condition beyond those stated. -/
import Derived.Test.YtncknfhfkmmhbaaGreatZAT
import Derived.Deep.QuietTactic
import Derived.BigQuiet
import Derived.Shelf.SlGeneric
import Derived.Shelf.SlSortCmp.WholeK
import Derived.Shelf.SlSortCmp.NoneTotal
import Derived.Ground.SlsfProg
import Derived.Test.YtncknfhfkmmhbaaGreatProg
import Derived.Test.YtncknfhfkmmhbaaGreatZAO
import Derived.Test.YtncknfhfkmmhbaaGreatZAP
set_option linter.unusedVariables false
set_option linter.unusedSimpArgs false
namespace Go.Proofs.YtncknfhfkmmhbaaGreat
open Go.RowKit

/-- own rows, not of need apart -/
structure OL (w : World) (Bo B : Nat) (A : Option Addr) (n c : Nat) (vs : List Sl) (l : List (List Int)) : Prop where
  os : OS w Bo 33 1 A n c (vs.map slv)
  len : vs.length = l.length
  rows : ∀ (j : Nat) (v : Sl) (z : List Int), vs[j]? = some v → l[j]? = some z → OI w B 2 v.1 v.2.1 v.2.2 z
section
variable {w w' : World} {Bo B : Nat} {A : Option Addr} {n c : Nat} {vs : List Sl} {l : List (List Int)}
theorem OL.nil_ (w : World) (Bo B : Nat) : OL w Bo B none 0 0 [] [] := ⟨OS.nil_ _ _ _ _, rfl, fun j v z h => by simp at h⟩
theorem OL.slen (h : OL w Bo B A n c vs l) : l.length = n := by have := h.os.len; have := h.len; simp at *; omega
theorem OL.kept {r : Option Nat} (h : OL w Bo B A n c vs l) (hg : w.grownBy w' r) (hr : ∀ b, r = some b → b < B) (hBo : B ≤ Bo) : OL w' Bo B A n c vs l := by
  have hb : ∀ {A : Option Addr}, (∀ b, blk A = some b → B ≤ b) → blk A = none ∨ blk A ≠ r := fun {A} h => by
    cases hA : blk A with
    | none => exact .inl rfl
    | some b => exact .inr fun e => by have := h b hA; have := hr b e.symm; omega
  exact ⟨h.os.kept hg (hb fun b e => Nat.le_trans hBo (h.os.lt e).1), h.len, fun j v z hv hz => (h.rows j v z hv hz).kept hg (hb fun b e => ((h.rows j v z hv hz).os.lt e).1)⟩
theorem OL.below (h : OL w Bo B A n c vs l) (hb : Below w.heap.size w w') : OL w' Bo B A n c vs l := ⟨h.os.below hb, h.len, fun j v z hv hz => (h.rows j v z hv hz).below hb⟩
theorem OL.push (h : OL w Bo B A n c vs l) {v : Sl} {z : List Int} (hv : OI w B 2 v.1 v.2.1 v.2.2 z) {A' : Option Addr} {c' : Nat} (hos : OS w' Bo 33 1 A' (n + 1) c' (vs.map slv ++ [slv v])) (hg : w.grownBy w' (blk A)) : OL w' Bo B A' (n + 1) c' (vs ++ [v]) (l ++ [z]) := by
  refine ⟨by simpa using hos, by simp [h.len], fun j u y hu hy => ?_⟩
  rw [List.getElem?_append] at hu hy
  rw [h.len] at hu
  split at hu
  · rename_i hj
    rw [if_pos hj] at hy
    exact (h.rows j u y hu hy).kept hg (OS.typed ((h.rows j u y hu hy).os.more (Nat.zero_le _)) (h.os.more (Nat.zero_le _)) (by decide))
  · rename_i hj
    rw [if_neg hj] at hy
    have e0 : j - l.length = 0 := by
      have := (List.getElem?_eq_some_iff.1 hu).1
      simp at this; omega
    rw [e0] at hu hy
    simp at hu hy
    subst hu; subst hy
    exact hv.kept hg (OS.typed (hv.os.more (Nat.zero_le _)) (h.os.more (Nat.zero_le _)) (by decide))
theorem OL.at_ (h : OL w Bo B A n c vs l) {j : Nat} (hj : j < n) : ∃ g v x, A = some ⟨g, 0, none⟩ ∧ w.cell? ⟨g, j, none⟩ = some (slv v) ∧ l[j]? = some x ∧ OI w B 2 v.1 v.2.1 v.2.2 x := by
  have hl := h.slen
  have h1 : j < vs.length := by rw [h.len]; omega
  have h2 : j < l.length := by omega
  obtain ⟨g, rfl, hc, hf⟩ := h.os.cell (j := j) (u := slv vs[j]) (by simp [h1])
  exact ⟨g, vs[j], l[j], rfl, hc, List.getElem?_eq_getElem h2, h.rows j _ _ (List.getElem?_eq_getElem h1) (List.getElem?_eq_getElem h2)⟩
theorem OL.more {B' : Nat} (h : OL w Bo B A n c vs l) (hBo : B' ≤ Bo) (hB : B' ≤ B) : OL w B' B' A n c vs l := ⟨h.os.more hBo, h.len, fun j v z hv hz => (h.rows j v z hv hz).more hB⟩
end
section
variable {ops : Array Oper} {rest : List Oper} {o : Oper} {a : Act} {Q : Exit → Act → World → Prop}
theorem app_ol (w : World) (hgd : o.guard = none) (s x : Operand) (ho : o.op = .call { callee := .builtin .append, args := #[s, x], argTypes := #[46, 46] })
    (Bo B : Nat) (A : Option Addr) (n c : Nat) (vs : List Sl) (l : List (List Int)) (hs : a.eval s = .slice A n c) (hown : OL w Bo B A n c vs l) (v : Sl) (z : List Int) (hv : OI w B 2 v.1 v.2.1 v.2.2 z)
    (g : Nat) (hx : a.eval x = .slice (some ⟨g, 0, none⟩) 1 1) (hgx : g = w.heap.size) (hbig : n + 1 ≤ 2199023255552) (hB : Bo ≤ w.heap.size)
    (h : ∀ A' c' w', OL w' Bo B A' (n + 1) c' (vs ++ [v]) (l ++ [z]) → w.grownBy w' (blk A) → (blk A' = blk A ∨ ∃ k, blk A' = some k ∧ w.heap.size ≤ k) → wpList Tryz.prog ops Q rest (a.put o.dst (.slice A' (n + 1) c')) w') :
    wpList Tryz.prog ops Q (o :: rest) a (w.alloc (.cells #[.slice v.1 v.2.1 v.2.2] 33)) :=
  wpList_app1' w hgd s x 46 ho 33 (.slice none 0 0) 24 Tryz.underlying46 ints_info rfl (by omega) Bo A n c (vs.map slv) hs hown.os (.slice v.1 v.2.1 v.2.2) g hx hgx rfl hbig hB
    fun A' c' w' h1 h2 h3 => h A' c' w' (hown.push hv h1 h2) h2 h3
end
/-- a block that keeps a pair out -/
def hitS (n : Nat) (s b : List Int) : Bool := decide (b = s) || decide (((comN b s : Nat) : Int) > (n : Int))
def extP (n : Nat) (bs : List (List Int)) (ps : List (List Int)) : List (List Int) := ps.filter fun s => !bs.any (hitS n s)
theorem extP_yes {n : Nat} {bs ps : List (List Int)} {k : Nat} (h : k < ps.length) (h2 : bs.any (hitS n (row ps k)) = false) : extP n bs (ps.take (k + 1)) = extP n bs (ps.take k) ++ [row ps k] := by
  rw [row_get h] at h2 ⊢
  unfold extP
  rw [List.take_succ_eq_append_getElem h, List.filter_append, List.filter_cons_of_pos (by simp [h2])]
  simp
theorem extP_no {n : Nat} {bs ps : List (List Int)} {k : Nat} (h : k < ps.length) (h2 : bs.any (hitS n (row ps k)) = true) : extP n bs (ps.take (k + 1)) = extP n bs (ps.take k) := by
  rw [row_get h] at h2
  unfold extP
  rw [List.take_succ_eq_append_getElem h, List.filter_append, List.filter_cons_of_neg (by simp [h2])]
  simp
set_option maxRecDepth 100000 in
set_option maxHeartbeats 2000000 in
theorem extensions1_any (N : Nat) (gs g7 : Nat) (S : Option Addr) (sn sc : Nat) (s : List Int) (A : Option Addr) (n c : Nat) (z : List Int) (w : World) (h1 : w.cell? ⟨gs, 0, none⟩ = some (.slice S sn sc)) (h2 : w.cell? ⟨g7, 0, none⟩ = some (.int .i64 (N : Int))) (hS : RI w S sn s) (hz : RI w A n z) (hsn : sn ≤ 32) (hn : n ≤ 32) :
    Calls Tryz.prog 39 #[.slice A n c, .pointer (some ⟨gs, 0, none⟩), .pointer (some ⟨g7, 0, none⟩)] w (RetB w (hitS N s z)) := by
  have he := fun (q : Nat) => slicesEqual_any A S n sn c sc z s (w.drewN q) (hz.drewN q) (hS.drewN q) (by omega) (by omega)
  have hc := fun (q : Nat) => common_any A S n sn c sc z s (w.drewN q) (hz.drewN q) (hS.drewN q) (by omega) (by omega)
  have hc' := fun (q : Nat) => (hc q).mono (fun e w' h => Quiet.of_same h)
  obtain ⟨R, hR⟩ : ∃ R, R = hitS N s z := ⟨_, rfl⟩
  rw [← hR]
  unfold hitS at hR
  by_cases hzs : z = s
  · have hd : decide (z = s) = true := by simp [hzs]
    rw [hd] at hR he
    have HR := Lib.hid (show R = true by rw [hR]; rfl)
    clear hR hzs hd hc hc'
    go_enter Tryz.func39, Tryz.ntmps39
    go_wp2
    go_quiet ((first | (go_at_call 35; exact Quiet.call (he _))))
    go_wp2
    go_ret
    exact ⟨by rw [HR.out]; rfl, below_drewn w nq⟩
  · have hd : decide (z = s) = false := by simp [hzs]
    rw [hd] at hR he
    have HR := Lib.hid (show R = decide (N < comN z s) by rw [hR]; simp)
    have hcb := comN_le z s
    rw [hz.len] at hcb
    generalize comN z s = q at *
    clear hR hzs hd hc
    go_enter Tryz.func39, Tryz.ntmps39
    go_wp2
    go_quiet ((first | (go_at_call 35; exact Quiet.call (he _)) | (go_at_call 40; exact Quiet.call (hc' _))))
    go_wp2
    go_ret
    exact ⟨by rw [HR.out]; rfl, below_drewn w nq⟩
set_option maxRecDepth 100000 in
set_option maxHeartbeats 4000000 in
theorem extensions_any (n : Nat) (A : Option Addr) (m c : Nat) (bs : List (List Int)) (w : World) (ha : RR w A m bs) (hm : m ≤ 64) (h1 : 1 ≤ n) (h5 : n ≤ 5) (hrows : ∀ r ∈ bs, r.length ≤ 32) :
    Calls Tryz.prog 22 #[.int .i64 n, .slice A m c, .int .i64 2, .int .i64 n] w (fun e w' => ∃ B k d vs, e = .returned (.slice B k d) ∧ OL w' w.heap.size w.heap.size B k d vs (extP n bs (pairsL n)) ∧ k ≤ 10 ∧ Below w.heap.size w w') := by
  have eg : ∀ (args : Array Value) (w : World), (callFunc 39 args).run Tryz.prog w = .ok (.enter 39 args) w := fun _ _ => by kernel_rfl
  have hba := below_alloc w (.cells #[.int .i64 (n : Int)] 2)
  have X7 := (Blk.new w 2 #[.int .i64 (n : Int)]).cell 0
  have has := allSubsets_any n (w.alloc (.cells #[.int .i64 (n : Int)] 2)) h1 h5
  have hpl := pairs_len h1 h5
  have HL := Lib.hid (show (pairsL n).length ≤ 10 by unfold pairsL; rw [List.length_map]; exact hpl)
  have HROW := Lib.hid hrows
  have hsm : smallRows bs 32 := fun i hi => by rw [row_get hi]; exact hrows _ (List.getElem_mem hi)
  have HP2 := Lib.hid (show ∀ j, j < (pairsL n).length → (row (pairsL n) j).length = 2 from fun j hj => by
    rw [row_get hj]
    have hm := List.getElem_mem hj
    generalize (pairsL n)[j] = r at hm ⊢
    unfold pairsL at hm
    obtain ⟨p, _, rfl⟩ := List.mem_map.1 hm
    rfl)
  clear hpl hrows
  go_enter Tryz.func22, Tryz.ntmps22
  go_wp2_with fail
  refine has.mono ?_
  rintro e w1 ⟨PB, pk, pd, rfl, ⟨pvs, hop⟩, hb1⟩
  have hw1 := hba.trans (hb1.mono hba.size)
  have hpk := hop.slen
  have x7 := below_cell hb1 X7
  have ha1 := ha.keep hw1
  have hrp : RR w1 PB pk (pairsL n) := OR.reads ⟨pvs, hop⟩
  have HOP := Lib.hid hop
  have HW := Lib.hid hw1
  have HB0 := Lib.hid hba.size
  have hpk10 : pk ≤ 10 := by rw [← hpk]; exact HL.out
  have HPK := Lib.hid hpk
  clear has X7 hb1 hop ha hpk hw1
  generalize hP : pairsL n = P at *
  have HPE := Lib.hid hP
  clear hP
  go_wp2
  go_loopw [9, 16] (fun lv iv wr => ∃ (i k : Nat) (B : Option Addr) (d : Nat) (vs : List Sl), i ≤ pk ∧ iv = .int .i64 i ∧ lv = .slice B k d ∧ k ≤ i ∧ OL wr w1.heap.size w.heap.size B k d vs (extP n bs (P.take i)) ∧ Below w1.heap.size w1 wr) (fun _ iv _ => pk - (intOf iv).toNat)
  case atStart => exact ⟨0, 0, none, 0, [], Nat.zero_le _, rfl, rfl, Nat.le_refl _, by simpa [extP] using OL.nil_ _ _ _, Below.refl _ _⟩
  case round =>
    obtain ⟨i, k, B, d, vs, hi, rfl, rfl, hki, hsv, hb⟩ := hrel
    by_cases hlt : i < pk
    · have hov := HOP.out.below hb
      have hi1 : i < pvs.length := by rw [hov.len, HPK.out]; exact hlt
      obtain ⟨⟨S, sn, sc⟩, hv⟩ : ∃ v, pvs[i]? = some v := ⟨_, List.getElem?_eq_getElem hi1⟩
      obtain ⟨gp, rfl, cS, -⟩ := hov.os.cell (j := i) (u := .slice S sn sc) (by rw [List.getElem?_map, hv]; rfl)
      have hoi := hov.rows i _ (row P i) hv (by rw [row_get (by rw [HPK.out]; exact hlt)]; exact List.getElem?_eq_getElem _)
      have hri := hoi.reads
      have hsn := hri.len
      rw [HP2.out i (by rw [HPK.out]; exact hlt)] at hsn
      subst hsn
      have hal := below_alloc wr (.cells #[.slice S 2 sc] 33)
      have XS := (Blk.new wr 33 #[.slice S 2 sc]).cell 0
      have hbw := hb.trans (hal.mono hb.size)
      have hask : AskRb 39 #[.pointer (some ⟨wr.heap.size, 0, none⟩), .pointer (some ⟨w.heap.size, 0, none⟩)] (hitS n (row P i)) (wr.alloc (.cells #[.slice S 2 sc] 33)) 32 := fun A' n' c' z W hW hz hn1 hn2 hn3 =>
        extensions1_any n wr.heap.size w.heap.size S 2 sc (row P i) A' n' c' z W (below_cell hW XS) (below_cell hW (below_cell hbw x7)) (hri.keep (hal.trans (hW.mono hal.size))) hz (by omega) hn3
      have hcf := containsFuncRb 39 #[.pointer (some ⟨wr.heap.size, 0, none⟩), .pointer (some ⟨w.heap.size, 0, none⟩)] eg (hitS n (row P i)) A m c bs _ 32 (ha1.keep hbw) (by omega) hsm hask
      have hil : i < P.length := by rw [HPK.out]; exact hlt
      cases hany : bs.any (hitS n (row P i)) with
      | true =>
        rw [hany] at hcf
        have HST := Lib.hid (extP_no hil hany)
        clear hany hask
        go_wp2_with fail
        refine hcf.mono ?_
        rintro e w3 ⟨rfl, hb3⟩
        have hb3' := hal.trans (hb3.mono hal.size)
        have hsv3 := hsv.below hb3'
        have hbw3 := hb.trans (hb3'.mono hb.size)
        go_wp2
        go_roundw
        case rel => exact ⟨i + 1, k, B, d, vs, by omega, by go_num, rfl, by omega, by rw [HST.out]; exact hsv3, hbw3⟩
        case measure => simp [intOf]; omega
      | false =>
        rw [hany] at hcf
        have HST := Lib.hid (extP_yes hil hany)
        clear hany hask
        go_wp2_with fail
        refine hcf.mono ?_
        rintro e w3 ⟨rfl, hb3⟩
        have hb3' := hal.trans (hb3.mono hal.size)
        have hsv3 := hsv.below hb3'
        have hbw3 := hb.trans (hb3'.mono hb.size)
        have xs := below_cell hb3 XS
        have hoi3 := (hoi.below hb3').more (show w.heap.size ≤ _ from HB0.out)
        have hbs3 := hbw3.size
        clear hcf XS cS hri hoi hov
        go_wp2_with (at_builtin; refine app_ol _ rfl (.tmp 24) (.tmp 26) rfl w1.heap.size w.heap.size B k d vs (extP n bs (P.take i)) rfl hsv3 (S, 2, sc) (row P i) hoi3 _ rfl rfl (by omega) hbs3 ?_; intro A4 c4 w4 ho4 hg4 hn4; have hb4 := Lib.hid (below_own hbw3 hg4 hbs3 (fun b hb => (hsv3.os.lt hb).1)); rw [← HST.out] at ho4)
        go_roundw
        case rel => exact ⟨i + 1, k + 1, A4, c4, _, by omega, by go_num, rfl, by omega, ho4, hb4.out⟩
        case measure => simp [intOf]; omega
    · obtain rfl : i = pk := by omega
      rw [List.take_of_length_le (by rw [HPK.out]; exact Nat.le_refl _)] at hsv
      have HSV := Lib.hid (hsv.more HW.out.size (Nat.le_refl _))
      clear hsv
      go_wp2
      go_ret
      exact ⟨B, k, d, vs, rfl, by rw [HPE.out]; exact HSV.out, by omega, HW.out.trans (hb.mono HW.out.size)⟩
end Go.Proofs.YtncknfhfkmmhbaaGreat
/-
  DERIVED: THE SHELF's CONTRACTS AT THIS DUMP, IN PLAIN WORDS (tools/lay-plain.mjs out of 'YtncknfhfkmmhbaaGreatLay8X.lean', which tools/lay-shelf.mjs wrote): THE SAME DECLARATIONS UNDER THE SAME NAMES: 'import', 'namespace', 'open', 'def', 'theorem' AND NOTHING ELSE: no command of the shelf's: FOR A HAND-IN. Each laying: the table of numbers ('.._ren') and one theorem, a field a fact of the dump's own or the kernel's comparison; each contract: ONE APPLICATION.
-/
namespace Go.Proofs
open Go.Shelf
def Tryz.sz3L_ren : Go.Shelf.Ren := ⟨fun | 6 => 27 | 15 => 43 | 14 => 46 | 28 => 68 | 29 => 69 | 20 => 72 | 21 => 73 | 22 => 74 | 23 => 75 | 24 => 76 | 25 => 77 | 26 => 78 | 27 => 79 | 46 => 97 | 47 => 93 | 48 => 94 | 49 => 98 | 50 => 99 | 57 => 109 | n => n, fun | 22 => 44 | 24 => 46 | 25 => 68 | 3 => 3 | 39 => 80 | 0 => 0 | 53 => 112 | 55 => 58 | 4 => 4 | 46 => 105 | 45 => 104 | 50 => 109 | 5 => 5 | 9 => 9 | 66 => 125 | 70 => 129 | 76 => 141 | 77 => 142 | n => n, fun | n => n⟩
theorem Tryz.sz3L : Go.Proofs.SlLaysF0.n6 Tryz.prog Tryz.sz3L_ren := {
  mixed := by kernel_rfl
  f6 := ⟨Tryz.f27.name, by decide, Tryz.func27.trans (congrArg some (by kernel_rfl))⟩
  f14 := ⟨Tryz.f46.name, by decide, Tryz.func46.trans (congrArg some (by kernel_rfl))⟩
  f15 := Tryz.func43.trans (congrArg some (by kernel_rfl))
  f20 := ⟨Tryz.f72.name, by decide, Tryz.func72.trans (congrArg some (by kernel_rfl))⟩
  f21 := ⟨Tryz.f73.name, by decide, Tryz.func73.trans (congrArg some (by kernel_rfl))⟩
  f22 := ⟨Tryz.f74.name, by decide, Tryz.func74.trans (congrArg some (by kernel_rfl))⟩
  f23 := ⟨Tryz.f75.name, by decide, Tryz.func75.trans (congrArg some (by kernel_rfl))⟩
  f24 := ⟨Tryz.f76.name, by decide, Tryz.func76.trans (congrArg some (by kernel_rfl))⟩
  f25 := ⟨Tryz.f77.name, by decide, Tryz.func77.trans (congrArg some (by kernel_rfl))⟩
  f26 := ⟨Tryz.f78.name, by decide, Tryz.func78.trans (congrArg some (by kernel_rfl))⟩
  f27 := ⟨Tryz.f79.name, by decide, Tryz.func79.trans (congrArg some (by kernel_rfl))⟩
  f28 := Tryz.func68.trans (congrArg some (by kernel_rfl))
  f29 := Tryz.func69.trans (congrArg some (by kernel_rfl))
  f46 := ⟨Tryz.f97.name, by decide, Tryz.func97.trans (congrArg some (by kernel_rfl))⟩
  f47 := Tryz.func93.trans (congrArg some (by kernel_rfl))
  f48 := Tryz.func94.trans (congrArg some (by kernel_rfl))
  f49 := ⟨Tryz.f98.name, by decide, Tryz.func98.trans (congrArg some (by kernel_rfl))⟩
  f50 := ⟨Tryz.f99.name, by decide, Tryz.func99.trans (congrArg some (by kernel_rfl))⟩
  f57 := ⟨Tryz.f109.name, by decide, Tryz.func109.trans (congrArg some (by kernel_rfl))⟩
  t0 := Tryz.underlying0
  a0 := Tryz.isAgg0
  z0 := Tryz.sizeOf0
  v0 := Tryz.zeroValue0
  t3 := Tryz.underlying3
  a3 := Tryz.isAgg3
  z3 := Tryz.sizeOf3
  v3 := Tryz.zeroValue3
  t4 := Tryz.underlying4
  a4 := Tryz.isAgg4
  z4 := Tryz.sizeOf4
  v4 := Tryz.zeroValue4
  t5 := Tryz.underlying5
  a5 := Tryz.isAgg5
  z5 := Tryz.sizeOf5
  v5 := Tryz.zeroValue5
  t9 := Tryz.underlying9
  a9 := Tryz.isAgg9
  z9 := Tryz.sizeOf9
  v9 := Tryz.zeroValue9
  t22 := Tryz.underlying44
  a22 := Tryz.isAgg44
  z22 := Tryz.sizeOf44
  v22 := Tryz.zeroValue44
  t25 := Tryz.underlying68
  a25 := Tryz.isAgg68
  z25 := Tryz.sizeOf68
  v25 := Tryz.zeroValue68
  t39 := Tryz.underlying80
  a39 := Tryz.isAgg80
  z39 := Tryz.sizeOf80
  v39 := Tryz.zeroValue80
  t45 := Tryz.underlying104
  a45 := Tryz.isAgg104
  z45 := Tryz.sizeOf104
  v45 := Tryz.zeroValue104
  t46 := Tryz.underlying105
  a46 := Tryz.isAgg105
  z46 := Tryz.sizeOf105
  v46 := Tryz.zeroValue105
  t50 := Tryz.underlying109
  a50 := Tryz.isAgg109
  z50 := Tryz.sizeOf109
  v50 := Tryz.zeroValue109
  t53 := Tryz.underlying112
  a53 := Tryz.isAgg112
  z53 := Tryz.sizeOf112
  v53 := Tryz.zeroValue112
  t55 := Tryz.underlying58
  a55 := Tryz.isAgg58
  z55 := Tryz.sizeOf58
  v55 := Tryz.zeroValue58
  t66 := Tryz.underlying125
  a66 := Tryz.isAgg125
  z66 := Tryz.sizeOf125
  v66 := Tryz.zeroValue125
  t70 := Tryz.underlying129
  a70 := Tryz.isAgg129
  z70 := Tryz.sizeOf129
  v70 := Tryz.zeroValue129
  t76 := Tryz.underlying141
  a76 := Tryz.isAgg141
  z76 := Tryz.sizeOf141
  v76 := Tryz.zeroValue141
  t77 := Tryz.underlying142
  a77 := Tryz.isAgg142
  z77 := Tryz.sizeOf142
  v77 := Tryz.zeroValue142 }
end Go.Proofs
/- slices.SortFunc on slices that only the outer block of is a call's own. No condition beyond those stated. -/
namespace Go.Proofs.YtncknfhfkmmhbaaGreat
open Go.RowKit Go.Sort

section
variable {α : Type} {E : World → Sl → α → Prop} {w : World} {g : Nat}
abbrev RG3 (E : World → Sl → α → Prop) (w : World) (g : Nat) := { p : Sl × α // ∀ w', w.grownBy w' (some g) → E w' p.1 p.2 }
def encG (p : RG3 E w g) : Value := slv p.1.1
def cmpG (cmp : α → α → Int) (x y : RG3 E w g) : Int := cmp x.1.2 y.1.2
theorem attachG (Z : List (Sl × α)) (h : ∀ p ∈ Z, ∀ w', w.grownBy w' (some g) → E w' p.1 p.2) : ∃ l : List (RG3 E w g), l.map (·.1) = Z := by
  induction Z with
  | nil => exact ⟨[], rfl⟩
  | cons p r ih =>
    obtain ⟨l, hl⟩ := ih fun q hq => h q (List.mem_cons_of_mem _ hq)
    exact ⟨⟨p, h p List.mem_cons_self⟩ :: l, by simp [hl]⟩
theorem swoG {cmp : α → α → Int} (ho : TOrd cmp) : SWO (ltOf (cmpG (E := E) (w := w) (g := g) cmp)) where
  irrefl := fun x => by
    show decide (cmp x.1.2 x.1.2 < 0) = false
    rw [ho.self]; rfl
  trans := fun x y z h1 h2 => by
    have h1 : cmp x.1.2 y.1.2 < 0 := of_decide_eq_true h1
    have h2 : cmp y.1.2 z.1.2 < 0 := of_decide_eq_true h2
    exact decide_eq_true (ho.lt_trans h1 h2)
  ntrans := fun x y z h1 h2 => by
    have h1 : ¬ cmp x.1.2 y.1.2 < 0 := of_decide_eq_false h1
    have h2 : ¬ cmp y.1.2 z.1.2 < 0 := of_decide_eq_false h2
    refine decide_eq_false ?_
    have a := ho.swap x.1.2 y.1.2
    have b := ho.swap y.1.2 z.1.2
    have c := ho.swap x.1.2 z.1.2
    have := ho.trans (x := z.1.2) (y := y.1.2) (z := x.1.2) (by omega) (by omega)
    show ¬ cmp x.1.2 z.1.2 < 0
    omega
end
/-- what sorting hands back -/
def RetSo {α : Type} (E : World → Sl → α → Prop) (cmp : α → α → Int) (w : World) (B : Nat) (t : TypeId) (A : Option Addr) (n c : Nat) (l : List α) (e : Ending) (w' : World) : Prop :=
  e = .returned (.tuple #[]) ∧ (∃ vs' l', SV E w' B t A n c vs' l' ∧ l'.Perm l ∧ SortedL cmp l') ∧ w.grownBy w' (blk A)
theorem sortSV_gen {α : Type} {ρ ρ0 : Go.Shelf.Ren} (L : SlLaysF.n6 Tryz.prog ρ) (L0 : SlLaysF0.n6 Tryz.prog ρ0) (h06 : ρ0.f 6 = ρ.f 6) (E : World → Sl → α → Prop) (cmp : α → α → Int) (ho : TOrd cmp) (f : FuncId) (eg : ∀ args w, (callFunc f args).run Tryz.prog w = .ok (.enter f args) w)
    (hcall : ∀ W u x v y, E W u x → E W v y → Calls Tryz.prog f #[slv u, slv v] W (fun e w' => e = .returned (.int .i64 (cmp x y)) ∧ W = w'))
    (B : Nat) (t : TypeId) (A : Option Addr) (n c : Nat) (vs : List Sl) (l : List α) (w : World) (h : SV E w B t A n c vs l) (hn : n ≤ 1048576) :
    Calls Tryz.prog (ρ.f 6) #[.slice A n c, .func (.func f) #[] #[]] w (RetSo E cmp w B t A n c l) := by
  have hsl := h.slen
  rcases Nat.eq_zero_or_pos n with rfl | hpos
  · have hl : l = [] := List.eq_nil_of_length_eq_zero hsl
    subst hl
    have := AnyF.slices_SortFunc_none L0 A c (.func (.func f) #[] #[]) w
    rw [h06] at this
    refine this.mono ?_
    rintro e w' ⟨he, rfl⟩
    exact ⟨he, ⟨vs, [], h, List.Perm.refl _, List.Pairwise.nil⟩, World.grownBy.refl _ _⟩
  · obtain ⟨g, v0, x0, rfl, -, -, hx0, hv0, -⟩ := h.at_ hpos
    have hst0 := h.rd 0 v0 x0 hv0 hx0
    haveI : Inhabited (RG3 E w g) := ⟨⟨(v0, x0), hst0⟩⟩
    obtain ⟨Z, hZ⟩ := attachG (E := E) (w := w) (g := g) (vs.zip l) (fun p hp => by
      obtain ⟨j, hj⟩ := List.getElem?_of_mem hp
      rw [List.getElem?_zip_eq_some] at hj
      exact h.rd j p.1 p.2 hj.1 hj.2)
    have hz1 : (vs.zip l).map (·.1) = vs := by rw [List.map_fst_zip (by have := h.len; omega)]
    have hz2 : (vs.zip l).map (·.2) = l := by rw [List.map_snd_zip (by have := h.len; omega)]
    have hzl : Z.length = n := by
      have := congrArg List.length hZ
      simp [h.len] at this
      omega
    have hos : OS w B t 1 (some ⟨g, 0, none⟩) n c (Z.map encG) := by
      have := h.os
      rw [← hz1, ← hZ, List.map_map, List.map_map] at this
      exact this
    have hgl : g < w.heap.size := by
      rcases hos.cases with ⟨h0, _⟩ | ⟨g', cur, h0, _, hg, _⟩
      · cases h0
      · injection h0 with h0
        injection h0 with h0
        subst h0
        exact (Array.getElem?_eq_some_iff.1 hg).1
    have hs : Z.toArray.size = n := by simpa using hzl
    have hlays : CmpLays1 Tryz.prog f #[] (encG (E := E) (w := w) (g := g)) (cmpG cmp) g 0 n w := by
      intro m os dk _ x y
      have hg := grownBy_sorted (enc := encG (E := E) (w := w) (g := g)) (w := w) (g := g) (m := m) (os := os) dk
      refine (hcall _ x.1.1 x.1.2 y.1.1 y.1.2 (x.2 _ hg) (y.2 _ hg)).mono ?_
      rintro e w' ⟨he, rfl⟩
      exact ⟨he, 0, #[], by rw [grow_empty]; rfl⟩
    have hcl := Any.slices_SortFunc L (encG (E := E) (w := w) (g := g)) (fun x => rfl) (cmpG cmp) (swoG ho) f #[] g 0 c Z.toArray w eg (by rw [hs]; exact hlays) (holds_of_os hos) hgl (by rw [hs]; omega)
    rw [hs] at hcl
    refine hcl.mono ?_
    rintro e w' ⟨he, d', m, os, hp, hsd, rfl⟩
    obtain ⟨hp1, hp2, hp3⟩ := hp
    have hd : d'.size = n := by rw [hp1, hs]
    have hperm : d'.toList.Perm Z := by
      have e1 : (d'.extract 0 n).toList = d'.toList := by
        rw [show d'.extract 0 n = d' by rw [← hd]; simp]
      have e2 : (Z.toArray.extract 0 n).toList = Z := by
        rw [show Z.toArray.extract 0 n = Z.toArray by rw [← hs]; simp]
      rwa [e1, e2] at hp3
    have hg := grownBy_sorted (enc := encG (E := E) (w := w) (g := g)) (w := w) (g := g) (m := m) (os := os) d'
    refine ⟨he, ⟨d'.toList.map (·.1.1), d'.toList.map (·.1.2), ⟨?_, by simp, fun j v x hv hx w'' hg2 => ?_⟩, ?_, ?_⟩, hg⟩
    · have := os_sorted (m := m) (os := os) hos (ts := d'.toList) (by rw [hperm.length_eq])
      rw [List.map_map]
      exact this
    · rw [List.getElem?_map] at hv hx
      cases hq : d'.toList[j]? with
      | none => rw [hq] at hv; cases hv
      | some q =>
        rw [hq] at hv hx
        simp only [Option.map_some, Option.some.injEq] at hv hx
        subst hv; subst hx
        exact q.2 w'' (hg.trans hg2)
    · have := hperm.map (·.1.2)
      have e3 : Z.map (·.1.2) = l := by rw [← hz2, ← hZ, List.map_map]; rfl
      rwa [e3] at this
    · rw [SortedL, List.pairwise_map, List.pairwise_iff_getElem]
      intro i j hi hj hij
      have h1 := hsd i j (Nat.zero_le _) hij (by simpa [hd] using hj)
      have hi' : i < d'.size := by simpa using hi
      have hj' : j < d'.size := by simpa using hj
      rw [getElem!_pos d' i hi', getElem!_pos d' j hj'] at h1
      have h1 : ¬ cmp (d'[j].1.2) (d'[i].1.2) < 0 := of_decide_eq_false h1
      have := ho.swap (d'[j].1.2) (d'[i].1.2)
      simp only [Array.getElem_toList]
      omega
theorem cmpS_zero : ∀ {xs ys : List (List Int)}, cmpS xs ys = 0 → xs = ys := by
  intro xs
  induction xs with
  | nil => intro ys h; cases ys <;> simp [cmpS] at h ⊢
  | cons x xs ih =>
    intro ys h
    cases ys with
    | nil => simp [cmpS] at h
    | cons y ys =>
      simp only [cmpS] at h
      split at h
      · rename_i e; rw [ih h, cmpL_ord.eq_of e]
      · rename_i e; exact absurd h e
theorem cmpS_refl (xs : List (List Int)) : cmpS xs xs = 0 := by
  induction xs with
  | nil => rfl
  | cons x xs ih => simp only [cmpS]; rw [if_pos (cmpL_refl x), ih]
theorem cmpS_swap (xs ys : List (List Int)) : cmpS ys xs = -cmpS xs ys := by
  induction xs generalizing ys with
  | nil => cases ys <;> simp [cmpS]
  | cons x xs ih =>
    cases ys with
    | nil => simp [cmpS]
    | cons y ys =>
      simp only [cmpS]
      have := cmpL_swap x y
      by_cases h : cmpL x y = 0
      · rw [if_pos h, if_pos (by omega), ih]
      · rw [if_neg h, if_neg (by omega), this]
theorem cmpS_trans {xs ys zs : List (List Int)} (h1 : cmpS xs ys ≤ 0) (h2 : cmpS ys zs ≤ 0) : cmpS xs zs ≤ 0 := by
  induction xs generalizing ys zs with
  | nil => cases zs <;> simp [cmpS]
  | cons x xs ih =>
    cases ys with
    | nil => simp [cmpS] at h1
    | cons y ys =>
      cases zs with
      | nil => simp [cmpS] at h2
      | cons z zs =>
        simp only [cmpS] at *
        by_cases e1 : cmpL x y = 0
        · have := cmpL_ord.eq_of e1
          subst this
          rw [if_pos e1] at h1
          by_cases e2 : cmpL x z = 0
          · rw [if_pos e2] at h2 ⊢
            exact ih h1 h2
          · rw [if_neg e2] at h2 ⊢
            exact h2
        · rw [if_neg e1] at h1
          by_cases e2 : cmpL y z = 0
          · have := cmpL_ord.eq_of e2
            subst this
            rw [if_neg e1]
            exact h1
          · rw [if_neg e2] at h2
            have h3 := cmpL_ord.lt_trans (x := x) (y := y) (z := z) (by omega) (by omega)
            rw [if_neg (by omega)]
            omega
theorem cmpS_ord : TOrd cmpS where
  eq_of := cmpS_zero
  self := cmpS_refl
  swap := cmpS_swap
  trans := cmpS_trans
/-- systems in ascending order -/
def srtS (l : List (List (List Int))) : List (List (List Int)) := l.mergeSort fun x y => decide (cmpS x y ≤ 0)
theorem srtS_perm (l : List (List (List Int))) : (srtS l).Perm l := List.mergeSort_perm _ _
theorem srtS_sorted (l : List (List (List Int))) : SortedL cmpS (srtS l) := by
  have := List.pairwise_mergeSort (le := fun x y : List (List Int) => decide (cmpS x y ≤ 0)) (fun a b c h1 h2 => by
    simp only [decide_eq_true_eq] at *
    exact cmpS_ord.trans h1 h2) (fun a b => by
    have := cmpS_ord.swap a b
    simp only [Bool.or_eq_true, decide_eq_true_eq]
    omega) l
  exact this.imp fun h => by simpa using h
theorem srtS_unique {l m : List (List (List Int))} (hp : m.Perm l) (hm : SortedL cmpS m) : m = srtS l :=
  (hp.trans (srtS_perm l).symm).eq_of_pairwise (fun a b _ _ h1 h2 => cmpS_ord.eq_of (by have := cmpS_ord.swap a b; omega)) hm (srtS_sorted l)
theorem sortSV2_any (B : Nat) (A : Option Addr) (n c : Nat) (vs : List Sl) (l : List (List Int)) (w : World) (h : SV RdI w B 33 A n c vs l) (hn : n ≤ 1048576) :
    Calls Tryz.prog 24 #[.slice A n c, .func (.func 25) #[] #[]] w (fun e w' => e = .returned (.tuple #[]) ∧ (∃ vs', SV RdI w' B 33 A n c vs' (srtR l)) ∧ w.grownBy w' (blk A)) := by
  have := sortSV_gen Tryz.srfL Tryz.srzL rfl RdI cmpL cmpL_ord 25 (fun _ _ => by kernel_rfl) (fun W u x v y hu hv => slicesCompare_any u.1 v.1 u.2.1 v.2.1 u.2.2 v.2.2 x y W hu.2.2 hv.2.2 (by have := hu.1; have := hu.2.1; omega) (by have := hv.1; have := hv.2.1; omega)) B 33 A n c vs l w h hn
  refine Calls.mono this ?_
  rintro e w' ⟨he, ⟨vs', l', h1, h2, h3⟩, hg⟩
  exact ⟨he, ⟨vs', by rw [← srtR_unique h2 h3]; exact h1⟩, hg⟩
theorem sortSV3_any (B : Nat) (A : Option Addr) (n c : Nat) (vs : List Sl) (l : List (List (List Int))) (w : World) (h : SV RdR w B 46 A n c vs l) (hn : n ≤ 1048576) :
    Calls Tryz.prog 27 #[.slice A n c, .func (.func 28) #[] #[]] w (fun e w' => e = .returned (.tuple #[]) ∧ (∃ vs', SV RdR w' B 46 A n c vs' (srtS l)) ∧ w.grownBy w' (blk A)) := by
  have := sortSV_gen Tryz.sr3L Tryz.sz3L rfl RdR cmpS cmpS_ord 28 (fun _ _ => by kernel_rfl) (fun W u x v y hu hv => compareSystems_any u.1 v.1 u.2.1 v.2.1 u.2.2 v.2.2 x y W hu.2.2 hv.2.2 (by have := hu.1; have := hu.2.1; omega) (by have := hv.1; have := hv.2.1; omega)) B 46 A n c vs l w h hn
  refine Calls.mono this ?_
  rintro e w' ⟨he, ⟨vs', l', h1, h2, h3⟩, hg⟩
  exact ⟨he, ⟨vs', by rw [← srtS_unique h2 h3]; exact h1⟩, hg⟩
end Go.Proofs.YtncknfhfkmmhbaaGreat
