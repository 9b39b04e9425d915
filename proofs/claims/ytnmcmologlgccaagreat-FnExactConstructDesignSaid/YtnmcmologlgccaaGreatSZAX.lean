/- The first construction that applies: the program's side. No condition beyond those stated. -/
import Derived.Test.YtnmcmologlgccaaGreatSZAW
set_option linter.unusedVariables false
set_option linter.unusedSimpArgs false
namespace Go.Proofs.YtnmcmologlgccaaGreat
open Go.RowKit
def fstO (v k l : Nat) : List Nat → Option (Nat × List (List Int))
  | [] => none
  | c :: cs => match dirO c v k l with
    | some bs => some (c, bs)
    | none => fstO v k l cs
def fstD (v k l : Nat) : Option (Nat × List (List Int)) := fstO v k l [1, 2, 3, 4, 5, 6]
theorem fst_some {v k l c : Nat} {bs : List (List Int)} (h1 : 1 ≤ c) (h6 : c ≤ 6) (hn : ∀ c', 1 ≤ c' → c' < c → dirO c' v k l = none) (hd : dirO c v k l = some bs) : fstD v k l = some (c, bs) := by
  have hc : c = 1 ∨ c = 2 ∨ c = 3 ∨ c = 4 ∨ c = 5 ∨ c = 6 := by omega
  rcases hc with rfl | rfl | rfl | rfl | rfl | rfl
  · simp only [fstD, fstO, hd]
  · simp only [fstD, fstO, hn 1 (by omega) (by omega), hd]
  · simp only [fstD, fstO, hn 1 (by omega) (by omega), hn 2 (by omega) (by omega), hd]
  · simp only [fstD, fstO, hn 1 (by omega) (by omega), hn 2 (by omega) (by omega), hn 3 (by omega) (by omega), hd]
  · simp only [fstD, fstO, hn 1 (by omega) (by omega), hn 2 (by omega) (by omega), hn 3 (by omega) (by omega), hn 4 (by omega) (by omega), hd]
  · simp only [fstD, fstO, hn 1 (by omega) (by omega), hn 2 (by omega) (by omega), hn 3 (by omega) (by omega), hn 4 (by omega) (by omega), hn 5 (by omega) (by omega), hd]
theorem fst_none {v k l : Nat} (hn : ∀ c', 1 ≤ c' → c' < 7 → dirO c' v k l = none) : fstD v k l = none := by
  simp only [fstD, fstO, hn 1 (by omega) (by omega), hn 2 (by omega) (by omega), hn 3 (by omega) (by omega), hn 4 (by omega) (by omega), hn 5 (by omega) (by omega), hn 6 (by omega) (by omega)]
def RetT (w : World) (v : Int) (bs : List (List Int)) (con : Int) (ok : Bool) (e : Ending) (w' : World) : Prop := ∃ A n c, e = .returned (.tuple #[.agg #[.int .i64 v, .slice A n c], .int .i64 con, .bool ok]) ∧ OR w' w.heap.size 36 2 A n c bs ∧ Below w.heap.size w w'
def RetFD (w : World) (v : Nat) (o : Option (Nat × List (List Int))) (e : Ending) (w' : World) : Prop :=
  match o with
  | some (c, bs) => RetT w v bs c true e w'
  | none => RetT w 0 [] 0 false e w'
set_option maxRecDepth 100000 in
set_option maxHeartbeats 8000000 in
theorem firstDirect_any (hH : HadOk) (v k l : Nat) (w : World) (hr : InR v k l) :
    Calls Tryz.prog 39 #[.int .i64 v, .int .i64 k, .int .i64 l] w (RetFD w v (fstD v k l)) := by
  have hb0 := below_alloc w (.cells #[.int .i64 0, .slice none 0 0] 28)
  have Y := Blk.new w 28 #[.int .i64 0, .slice none 0 0]
  have hz0 : (w.alloc (.cells #[.int .i64 0, .slice none 0 0] 28)).heap.size = w.heap.size + 1 := by simp
  have HD := Lib.hid (fun (c : Nat) (W : World) (h1 : 1 ≤ c) (h6 : c ≤ 6) (hn : ∀ c', 1 ≤ c' → c' < c → dirO c' v k l = none) => direct_any hH c v k l W h1 h6 hr hn)
  obtain ⟨v3, v32, k2, kv, l1, l1000⟩ := hr
  clear hH
  go_enter Tryz.func39, Tryz.ntmps39
  go_wp2
  generalize w.alloc (.cells #[.int .i64 0, .slice none 0 0] 28) = W0 at *
  go_loopw [9] (fun cv wr => ∃ c : Nat, 1 ≤ c ∧ c ≤ 7 ∧ cv = .int .i64 c ∧ Hid (∀ c', 1 ≤ c' → c' < c → dirO c' v k l = none) ∧ Below (w.heap.size + 1) W0 wr) (fun cv _ => 7 - (intOf cv).toNat)
  case atStart => exact ⟨1, by omega, by omega, rfl, Lib.hid (fun c' h1 h2 => by omega), Below.refl _ _⟩
  case round =>
    obtain ⟨c, hc1, hc7, rfl, HN, hb⟩ := hrel
    have hwr := hb0.trans (hb.mono (by omega))
    have hbs := hwr.size
    have hbz := hb.size
    have Y1 := Y.below hb (by omega)
    by_cases hlt : c ≤ 6
    · have hd := HD.out c wr hc1 hlt HN.out
      cases hdo : dirO c v k l with
      | some bs =>
        rw [hdo] at hd
        have HF := Lib.hid (fst_some hc1 hlt HN.out hdo)
        clear hdo HN Y hb hc7
        go_wp2_with fail
        refine hd.mono ?_
        rintro e w5 ⟨A, n, cc, rfl, ho, hb5⟩
        have Y6 := (Y1.after hb5).alloc (.cells #[.int .i64 (v : Int), .slice A n cc] 28)
        have Z6 := Blk.new w5 28 #[.int .i64 (v : Int), .slice A n cc]
        have hw5 := hwr.trans (hb5.mono hbs)
        have hw6 := hw5.alloc hw5.size (.cells #[.int .i64 (v : Int), .slice A n cc] 28)
        have ho6 := ho.alloc (.cells #[.int .i64 (v : Int), .slice A n cc] 28)
        obtain ⟨y0, y1⟩ := Y6.cells2
        obtain ⟨z0, z1⟩ := Z6.cells2
        have f0 := Y6.frozen 0
        have f1 := Y6.frozen 1
        obtain ⟨q0, q1, q2, q3⟩ := fin_store (v := (v : Int)) Y6 hw6 ho6 (by omega)
        have Q := Lib.hid (And.intro q0 q1)
        clear q0 q1 hd ho hb5 Y1 Y6 Z6 hw5 hw6 ho6
        go_wp2
        refine bodyPost_ret (v := .tuple #[.agg #[.int .i64 (v : Int), .slice A n cc], .int .i64 c, .bool true]) (by simp [results, Tryz.results39, go_sem, q2, q3]) rfl ?_
        rw [HF.out]
        exact ⟨A, n, cc, rfl, Q.out.1, Q.out.2⟩
      | none =>
        rw [hdo] at hd
        have HN2 : Hid (∀ c', 1 ≤ c' → c' < c + 1 → dirO c' v k l = none) := Lib.hid (fun c' h1 h2 => by
          by_cases h3 : c' < c
          · exact HN.out c' h1 h3
          · obtain rfl : c' = c := by omega
            exact hdo)
        clear hdo HN hwr
        go_wp2_with fail
        refine hd.mono ?_
        rintro e w5 ⟨A, n, cc, rfl, ho, hb5⟩
        have hb6 := (hb.trans (hb5.mono (by omega)))
        have hs6 := hb5.size
        have hb7 := hb6.alloc (by omega) (.cells #[.int .i64 0, .slice A n cc] 28)
        clear hd ho hb5 hb6 hb
        go_wp2
        exact ⟨⟨c + 1, by omega, by omega, by go_num, HN2, hb7⟩, by simp only [intOf]; omega⟩
    · obtain rfl : c = 7 := by omega
      have HF := Lib.hid (fst_none HN.out)
      clear HN
      obtain ⟨y0, y1⟩ := Y1.cells2
      have f0 := Y1.frozen 0
      have f1 := Y1.frozen 1
      obtain ⟨q0, q1, q2, q3⟩ := fin_store (v := 0) (A := none) (n := 0) (c := 0) (bs := []) Y1 hwr (OR.nil_ _ (w.heap.size + 1) (by decide)) (by omega)
      have Q := Lib.hid (And.intro q0 q1)
      clear q0 q1
      go_wp2
      refine bodyPost_ret (v := .tuple #[.agg #[.int .i64 0, .slice none 0 0], .int .i64 0, .bool false]) (by simp [results, Tryz.results39, go_sem, q2, q3]) rfl ?_
      rw [HF.out]
      exact ⟨none, 0, 0, rfl, Q.out.1, Q.out.2⟩
noncomputable def pairN (bs : List (List Int)) (a b : Int) : Nat := bs.countP fun r => tB (a ∈ r) && tB (b ∈ r)
noncomputable def prB (bs : List (List Int)) (a j : Nat) : List Int := (List.range j).map fun (d : Nat) => ((pairN bs (a : Int) ((a + 1 + d : Nat) : Int) : Nat) : Int)
noncomputable def prP (v : Nat) (bs : List (List Int)) (a : Nat) : List Int := (List.range a).flatMap fun a => prB bs a (v - a - 1)
theorem pair_le (bs : List (List Int)) (a b : Int) : pairN bs a b ≤ bs.length := List.countP_le_length
theorem des_row {v : Nat} {bs : List (List Int)} (h : Design (v : Int) bs) {i : Nat} (hi : i < bs.length) : (row bs i).length ≤ v ∧ ∀ k, k < (row bs i).length → ∃ y : Nat, nth (row bs i) k = (y : Int) ∧ y < v := by
  have hb := h.blk i hi
  have hbd : ∀ k, k < (row bs i).length → ∃ y : Nat, nth (row bs i) k = (y : Int) ∧ y < v := fun k hk => by
    have := hb.2.bd k hk
    exact ⟨(nth (row bs i) k).toNat, by omega, by omega⟩
  refine ⟨?_, hbd⟩
  have hup : ∀ k, k < (row bs i).length → (k : Int) ≤ nth (row bs i) k := by
    intro k
    induction k with
    | zero => intro hk; have := hb.2.bd 0 hk; omega
    | succ k ih =>
      intro hk
      have h1 := ih (by omega)
      have h2 := hb.2.up k hk
      omega
  have h0 := hb.1
  have h1 := hup ((row bs i).length - 1) (by omega)
  have h2 := hb.2.bd ((row bs i).length - 1) (by omega)
  omega
structure Bal (v : Nat) (bs : List (List Int)) (k : Nat) (lam : Int) : Prop where
  d : Design (v : Int) bs
  v2 : 2 ≤ v
  b1 : 0 < bs.length
  len : ∀ i, i < bs.length → (row bs i).length = k
  k2 : 2 ≤ k
  lam : ∀ j, j < (prP v bs v).length → nth (prP v bs v) j = lam
end Go.Proofs.YtnmcmologlgccaaGreat
