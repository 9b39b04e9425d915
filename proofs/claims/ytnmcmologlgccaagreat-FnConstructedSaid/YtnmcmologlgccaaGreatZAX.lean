/- The first construction that applies: the program's side. No condition beyond those stated. -/
import Derived.Test.YtnmcmologlgccaaGreatZAW
import Derived.Test.YtnmcmologlgccaaGreatZAS
import Derived.Test.YtnmcmologlgccaaGreatZAB
import Derived.Test.YtnmcmologlgccaaGreatZAC
import Derived.Test.YtnmcmologlgccaaGreatZAG
import Derived.Test.YtnmcmologlgccaaGreatZAK
set_option linter.unusedVariables false
set_option linter.unusedSimpArgs false
namespace Go.Proofs.YtnmcmologlgccaaGreat
open Go.RowKit

def fstO (v k l : Nat) : List Nat → Option (Nat × List (List Int))
  | [] => none
  | c :: cs => match dirO c v k l with
    | some bs => some (c, bs)
    | none => fstO v k l cs
def fstD (v k l : Nat) : Option (Nat × List (List Int)) := fstO v k l [1, 2, 3, 4, 5, 6]
theorem fst_some {v k l c : Nat} {bs : List (List Int)} (h1 : 1 ≤ c) (h6 : c ≤ 6) (hn : ∀ c', 1 ≤ c' → c' < c → dirO c' v k l = none) (hd : dirO c v k l = some bs) : fstD v k l = some (c, bs) := by
  have hc : c = 1 ∨ c = 2 ∨ c = 3 ∨ c = 4 ∨ c = 5 ∨ c = 6 := by omega
  rcases hc with rfl | rfl | rfl | rfl | rfl | rfl
  · simp only [fstD, fstO, hd]
  · simp only [fstD, fstO, hn 1 (by omega) (by omega), hd]
  · simp only [fstD, fstO, hn 1 (by omega) (by omega), hn 2 (by omega) (by omega), hd]
  · simp only [fstD, fstO, hn 1 (by omega) (by omega), hn 2 (by omega) (by omega), hn 3 (by omega) (by omega), hd]
  · simp only [fstD, fstO, hn 1 (by omega) (by omega), hn 2 (by omega) (by omega), hn 3 (by omega) (by omega), hn 4 (by omega) (by omega), hd]
  · simp only [fstD, fstO, hn 1 (by omega) (by omega), hn 2 (by omega) (by omega), hn 3 (by omega) (by omega), hn 4 (by omega) (by omega), hn 5 (by omega) (by omega), hd]
theorem fst_none {v k l : Nat} (hn : ∀ c', 1 ≤ c' → c' < 7 → dirO c' v k l = none) : fstD v k l = none := by
  simp only [fstD, fstO, hn 1 (by omega) (by omega), hn 2 (by omega) (by omega), hn 3 (by omega) (by omega), hn 4 (by omega) (by omega), hn 5 (by omega) (by omega), hn 6 (by omega) (by omega)]
/-- a design, its construction and whether there is one -/
def RetT (w : World) (v : Int) (bs : List (List Int)) (con : Int) (ok : Bool) (e : Ending) (w' : World) : Prop := ∃ A n c, e = .returned (.tuple #[.agg #[.int .i64 v, .slice A n c], .int .i64 con, .bool ok]) ∧ OR w' w.heap.size 36 2 A n c bs ∧ Below w.heap.size w w'
def RetFD (w : World) (v : Nat) (o : Option (Nat × List (List Int))) (e : Ending) (w' : World) : Prop :=
  match o with
  | some (c, bs) => RetT w v bs c true e w'
  | none => RetT w 0 [] 0 false e w'
set_option maxRecDepth 100000 in
set_option maxHeartbeats 8000000 in
theorem firstDirect_any (hH : HadOk) (v k l : Nat) (w : World) (hr : InR v k l) :
    Calls Tryz.prog 39 #[.int .i64 v, .int .i64 k, .int .i64 l] w (RetFD w v (fstD v k l)) := by
  have hb0 := below_alloc w (.cells #[.int .i64 0, .slice none 0 0] 28)
  have Y := Blk.new w 28 #[.int .i64 0, .slice none 0 0]
  have hz0 : (w.alloc (.cells #[.int .i64 0, .slice none 0 0] 28)).heap.size = w.heap.size + 1 := by simp
  have HD := Lib.hid (fun (c : Nat) (W : World) (h1 : 1 ≤ c) (h6 : c ≤ 6) (hn : ∀ c', 1 ≤ c' → c' < c → dirO c' v k l = none) => direct_any hH c v k l W h1 h6 hr hn)
  obtain ⟨v3, v32, k2, kv, l1, l1000⟩ := hr
  clear hH
  go_enter Tryz.func39, Tryz.ntmps39
  go_wp2
  generalize w.alloc (.cells #[.int .i64 0, .slice none 0 0] 28) = W0 at *
  go_loopw [9] (fun cv wr => ∃ c : Nat, 1 ≤ c ∧ c ≤ 7 ∧ cv = .int .i64 c ∧ Hid (∀ c', 1 ≤ c' → c' < c → dirO c' v k l = none) ∧ Below (w.heap.size + 1) W0 wr) (fun cv _ => 7 - (intOf cv).toNat)
  case atStart => exact ⟨1, by omega, by omega, rfl, Lib.hid (fun c' h1 h2 => by omega), Below.refl _ _⟩
  case round =>
    obtain ⟨c, hc1, hc7, rfl, HN, hb⟩ := hrel
    have hwr := hb0.trans (hb.mono (by omega))
    have hbs := hwr.size
    have hbz := hb.size
    have Y1 := Y.below hb (by omega)
    by_cases hlt : c ≤ 6
    · have hd := HD.out c wr hc1 hlt HN.out
      cases hdo : dirO c v k l with
      | some bs =>
        rw [hdo] at hd
        have HF := Lib.hid (fst_some hc1 hlt HN.out hdo)
        clear hdo HN Y hb hc7
        go_wp2_with fail
        refine hd.mono ?_
        rintro e w5 ⟨A, n, cc, rfl, ho, hb5⟩
        have Y6 := (Y1.after hb5).alloc (.cells #[.int .i64 (v : Int), .slice A n cc] 28)
        have Z6 := Blk.new w5 28 #[.int .i64 (v : Int), .slice A n cc]
        have hw5 := hwr.trans (hb5.mono hbs)
        have hw6 := hw5.alloc hw5.size (.cells #[.int .i64 (v : Int), .slice A n cc] 28)
        have ho6 := ho.alloc (.cells #[.int .i64 (v : Int), .slice A n cc] 28)
        obtain ⟨y0, y1⟩ := Y6.cells2
        obtain ⟨z0, z1⟩ := Z6.cells2
        have f0 := Y6.frozen 0
        have f1 := Y6.frozen 1
        obtain ⟨q0, q1, q2, q3⟩ := fin_store (v := (v : Int)) Y6 hw6 ho6 (by omega)
        have Q := Lib.hid (And.intro q0 q1)
        clear q0 q1 hd ho hb5 Y1 Y6 Z6 hw5 hw6 ho6
        go_wp2
        refine bodyPost_ret (v := .tuple #[.agg #[.int .i64 (v : Int), .slice A n cc], .int .i64 c, .bool true]) (by simp [results, Tryz.results39, go_sem, q2, q3]) rfl ?_
        rw [HF.out]
        exact ⟨A, n, cc, rfl, Q.out.1, Q.out.2⟩
      | none =>
        rw [hdo] at hd
        have HN2 : Hid (∀ c', 1 ≤ c' → c' < c + 1 → dirO c' v k l = none) := Lib.hid (fun c' h1 h2 => by
          by_cases h3 : c' < c
          · exact HN.out c' h1 h3
          · obtain rfl : c' = c := by omega
            exact hdo)
        clear hdo HN hwr
        go_wp2_with fail
        refine hd.mono ?_
        rintro e w5 ⟨A, n, cc, rfl, ho, hb5⟩
        have hb6 := (hb.trans (hb5.mono (by omega)))
        have hs6 := hb5.size
        have hb7 := hb6.alloc (by omega) (.cells #[.int .i64 0, .slice A n cc] 28)
        clear hd ho hb5 hb6 hb
        go_wp2
        exact ⟨⟨c + 1, by omega, by omega, by go_num, HN2, hb7⟩, by simp only [intOf]; omega⟩
    · obtain rfl : c = 7 := by omega
      have HF := Lib.hid (fst_none HN.out)
      clear HN
      obtain ⟨y0, y1⟩ := Y1.cells2
      have f0 := Y1.frozen 0
      have f1 := Y1.frozen 1
      obtain ⟨q0, q1, q2, q3⟩ := fin_store (v := 0) (A := none) (n := 0) (c := 0) (bs := []) Y1 hwr (OR.nil_ _ (w.heap.size + 1) (by decide)) (by omega)
      have Q := Lib.hid (And.intro q0 q1)
      clear q0 q1
      go_wp2
      refine bodyPost_ret (v := .tuple #[.agg #[.int .i64 0, .slice none 0 0], .int .i64 0, .bool false]) (by simp [results, Tryz.results39, go_sem, q2, q3]) rfl ?_
      rw [HF.out]
      exact ⟨none, 0, 0, rfl, Q.out.1, Q.out.2⟩
end Go.Proofs.YtnmcmologlgccaaGreat
/- Pairs of points in blocks, and how often a point is in blocks: the reference's side. No condition beyond those stated. -/
namespace Go.Proofs.YtnmcmologlgccaaGreat
open Go.RowKit

/-- the number of blocks with two points -/
noncomputable def pairN (bs : List (List Int)) (a b : Int) : Nat := bs.countP fun r => tB (a ∈ r) && tB (b ∈ r)
noncomputable def prB (bs : List (List Int)) (a j : Nat) : List Int := (List.range j).map fun (d : Nat) => ((pairN bs (a : Int) ((a + 1 + d : Nat) : Int) : Nat) : Int)
noncomputable def prP (v : Nat) (bs : List (List Int)) (a : Nat) : List Int := (List.range a).flatMap fun a => prB bs a (v - a - 1)
theorem prB_step (bs : List (List Int)) (a j : Nat) : prB bs a (j + 1) = prB bs a j ++ [((pairN bs (a : Int) ((a + 1 + j : Nat) : Int) : Nat) : Int)] := by simp [prB, List.range_succ]
theorem prP_step (v : Nat) (bs : List (List Int)) (a : Nat) : prP v bs (a + 1) = prP v bs a ++ prB bs a (v - a - 1) := by simp [prP, List.range_succ, List.flatMap_append]
theorem pair_step {bs : List (List Int)} {a b : Int} {i : Nat} (h : i < bs.length) : (bs.take (i + 1)).countP (fun r => tB (a ∈ r) && tB (b ∈ r)) = (bs.take i).countP (fun r => tB (a ∈ r) && tB (b ∈ r)) + if tB (a ∈ row bs i) && tB (b ∈ row bs i) then 1 else 0 := by
  rw [List.take_succ_eq_append_getElem h, List.countP_append, ← row_get h]
  simp [List.countP_cons]
theorem pair_le (bs : List (List Int)) (a b : Int) : pairN bs a b ≤ bs.length := List.countP_le_length
theorem Blk.after' {w w' : World} {g B : Nat} {t e : TypeId} {cs : Array Value} {A : Option Addr} {n c : Nat} {zs : List Int} (h : Blk w g t cs) (hg : w.grownBy w' (blk A)) (ho : OI w B e A n c zs) (hne : e ≠ t := by decide) : Blk w' g t cs := by
  refine h.grown hg fun e' => ?_
  rcases ho.os.cases with ⟨rfl, _⟩ | ⟨g', cur, rfl, _, hg', _⟩
  · simp [blk] at e'
  · have : g = g' := by simpa [blk] using e'
    subst this
    unfold Blk at h
    rw [h] at hg'
    injection hg' with hg'
    injection hg' with _ ht
    exact hne ht.symm
end Go.Proofs.YtnmcmologlgccaaGreat
/- How often each point is in blocks, and the parameters of a balanced design: the reference's side. No condition beyond those stated. -/
namespace Go.Proofs.YtnmcmologlgccaaGreat
open Go.RowKit

/-- numbers that say how often each of v numbers is in a list -/
def CntIs (v : Nat) (zs L : List Int) : Prop := zs.length = v ∧ ∀ x, x < v → nth zs x = ((L.count (x : Int) : Nat) : Int)
theorem nth_set' {l : List Int} {i j : Nat} {x : Int} (hj : j < l.length) : nth (l.set i x) j = if i = j then x else nth l j := by
  rw [nth_get (by simpa using hj), List.getElem_set]
  split
  · rfl
  · rw [nth_get hj]
theorem CntIs.step {v : Nat} {zs L : List Int} (h : CntIs v zs L) {y : Nat} (hy : y < v) : CntIs v (zs.set y (nth zs y + 1)) (L ++ [(y : Int)]) := by
  refine ⟨by rw [List.length_set, h.1], fun x hx => ?_⟩
  rw [nth_set' (by rw [h.1]; exact hx), List.count_append, List.count_singleton]
  by_cases e : y = x
  · subst e
    rw [if_pos rfl, h.2 y hy]
    simp
  · rw [if_neg e, h.2 x hx]
    have : ((y : Int) == (x : Int)) = false := by simp; omega
    rw [this]
    simp
noncomputable def repP (v : Nat) (bs : List (List Int)) : List Int := (List.range v).map fun (x : Nat) => ((bs.flatten.count (x : Int) : Nat) : Int)
theorem CntIs.eq {v : Nat} {zs : List Int} {bs : List (List Int)} (h : CntIs v zs bs.flatten) : zs = repP v bs := by
  refine List.ext_getElem (by rw [h.1]; simp [repP]) fun x h1 h2 => ?_
  have hx : x < v := by rw [← h.1]; exact h1
  have := h.2 x hx
  rw [nth_get h1] at this
  rw [this]
  simp [repP]
theorem flat_take {bs : List (List Int)} {i : Nat} (h : i < bs.length) : (bs.take (i + 1)).flatten = (bs.take i).flatten ++ row bs i := by
  rw [List.take_succ_eq_append_getElem h, List.flatten_append, ← row_get h]
  simp
theorem row_take {z : List Int} {k : Nat} (h : k < z.length) : z.take (k + 1) = z.take k ++ [nth z k] := by
  rw [List.take_succ_eq_append_getElem h, nth_get h]
theorem flat_lenP {bs : List (List Int)} {v : Nat} (h : ∀ i, i < bs.length → (row bs i).length ≤ v) : ∀ k, k ≤ bs.length → (bs.take k).flatten.length ≤ k * v := by
  intro k
  induction k with
  | zero => intro _; simp
  | succ k ih =>
    intro hk
    have := ih (by omega)
    have := h k (by omega)
    rw [flat_take (by omega), List.length_append, Nat.succ_mul]
    omega
theorem des_row {v : Nat} {bs : List (List Int)} (h : Design (v : Int) bs) {i : Nat} (hi : i < bs.length) : (row bs i).length ≤ v ∧ ∀ k, k < (row bs i).length → ∃ y : Nat, nth (row bs i) k = (y : Int) ∧ y < v := by
  have hb := h.blk i hi
  have hbd : ∀ k, k < (row bs i).length → ∃ y : Nat, nth (row bs i) k = (y : Int) ∧ y < v := fun k hk => by
    have := hb.2.bd k hk
    exact ⟨(nth (row bs i) k).toNat, by omega, by omega⟩
  refine ⟨?_, hbd⟩
  have hup : ∀ k, k < (row bs i).length → (k : Int) ≤ nth (row bs i) k := by
    intro k
    induction k with
    | zero => intro hk; have := hb.2.bd 0 hk; omega
    | succ k ih =>
      intro hk
      have h1 := ih (by omega)
      have h2 := hb.2.up k hk
      omega
  have h0 := hb.1
  have h1 := hup ((row bs i).length - 1) (by omega)
  have h2 := hb.2.bd ((row bs i).length - 1) (by omega)
  omega
theorem grown_setB {w : World} {g p : Nat} {u : Value} : w.grownBy (w.setCell ⟨g, p, none⟩ u) (blk (some (⟨g, 0, none⟩ : Addr))) :=
  ⟨rfl, rfl, rfl, by simp [World.setCell], fun k _ hk => Below.heap_setCell _ _ _ _ (fun e => hk (by rw [e]; rfl))⟩
end Go.Proofs.YtnmcmologlgccaaGreat
/- The parameters of a balanced design: the reference's side. No condition beyond those stated. -/
namespace Go.Proofs.YtnmcmologlgccaaGreat
open Go.RowKit

/-- a balanced design, its block size and how many blocks have each pair of points -/
structure Bal (v : Nat) (bs : List (List Int)) (k : Nat) (lam : Int) : Prop where
  d : Design (v : Int) bs
  v2 : 2 ≤ v
  b1 : 0 < bs.length
  len : ∀ i, i < bs.length → (row bs i).length = k
  k2 : 2 ≤ k
  lam : ∀ j, j < (prP v bs v).length → nth (prP v bs v) j = lam
/-- the parameters' cells -/
def parV (v b r k : Nat) (lam : Int) : Array Value := #[.int .i64 (v : Int), .int .i64 (b : Int), .int .i64 (r : Int), .int .i64 (k : Int), .int .i64 lam]
def par0 : Array Value := #[.int .i64 0, .int .i64 0, .int .i64 0, .int .i64 0, .int .i64 0]
theorem prB_len (bs : List (List Int)) (a j : Nat) : (prB bs a j).length = j := by simp [prB]
theorem prP_pos {v : Nat} {bs : List (List Int)} (h : 2 ≤ v) : 0 < (prP v bs v).length := by
  obtain ⟨u, rfl⟩ : ∃ u, v = u + 1 := ⟨v - 1, by omega⟩
  have h1 : (prB bs 0 (u + 1 - 0 - 1)).length = u := by rw [prB_len]; omega
  have : (prP (u + 1) bs 1).length = u := by rw [show (1 : Nat) = 0 + 1 from rfl, prP_step, List.length_append, h1]; simp [prP]
  have hm : ∀ a, (prP (u + 1) bs (a + 1)).length ≥ u := by
    intro a
    induction a with
    | zero => simp only [Nat.zero_add]; omega
    | succ a ih => rw [prP_step, List.length_append]; omega
  have := hm u
  omega
theorem Blk.cells5 {w : World} {g : Nat} {t : TypeId} {a b c d e : Value} (h : Blk w g t #[a, b, c, d, e]) : w.cell? ⟨g, 0, none⟩ = some a ∧ w.cell? ⟨g, 1, none⟩ = some b ∧ w.cell? ⟨g, 2, none⟩ = some c ∧ w.cell? ⟨g, 3, none⟩ = some d ∧ w.cell? ⟨g, 4, none⟩ = some e := ⟨h.cell 0, h.cell 1, h.cell 2, h.cell 3, h.cell 4⟩
theorem prP_len_le {v : Nat} {bs : List (List Int)} : ∀ a, a ≤ v → (prP v bs a).length ≤ a * v := by
  intro a
  induction a with
  | zero => intro _; simp [prP]
  | succ a ih =>
    intro h
    have := ih (by omega)
    rw [prP_step, List.length_append, prB_len, Nat.succ_mul]
    omega
theorem put5 {w : World} {rb : Nat} {t : TypeId} {x0 x1 x2 x3 x4 a b c d e : Value} (R : Blk w rb t #[x0, x1, x2, x3, x4]) :
    Blk (((((w.setCell ⟨rb, 0, none⟩ a).setCell ⟨rb, 1, none⟩ b).setCell ⟨rb, 2, none⟩ c).setCell ⟨rb, 3, none⟩ d).setCell ⟨rb, 4, none⟩ e) rb t #[a, b, c, d, e] := by
  have := ((((R.set_ 0 a).set_ 1 b).set_ 2 c).set_ 3 d).set_ 4 e
  simpa using this
theorem below5 {w0 w : World} {rb : Nat} {a b c d e : Value} (h : Below w0.heap.size w0 w) (hr : w0.heap.size ≤ rb) :
    Below w0.heap.size w0 (((((w.setCell ⟨rb, 0, none⟩ a).setCell ⟨rb, 1, none⟩ b).setCell ⟨rb, 2, none⟩ c).setCell ⟨rb, 3, none⟩ d).setCell ⟨rb, 4, none⟩ e) :=
  ((((h.setCell (p := ⟨rb, 0, none⟩) hr a).setCell (p := ⟨rb, 1, none⟩) hr b).setCell (p := ⟨rb, 2, none⟩) hr c).setCell (p := ⟨rb, 3, none⟩) hr d).setCell (p := ⟨rb, 4, none⟩) hr e
/-- a result that says no -/
theorem par_no (w w5 : World) (rb : Nat) (R : Blk w5 rb 32 par0) : w5.cell? ⟨rb, 0, none⟩ = some (.int .i64 0) ∧ w5.cell? ⟨rb, 1, none⟩ = some (.int .i64 0) ∧ w5.cell? ⟨rb, 2, none⟩ = some (.int .i64 0) ∧ w5.cell? ⟨rb, 3, none⟩ = some (.int .i64 0) ∧ w5.cell? ⟨rb, 4, none⟩ = some (.int .i64 0) := R.cells5
end Go.Proofs.YtnmcmologlgccaaGreat
