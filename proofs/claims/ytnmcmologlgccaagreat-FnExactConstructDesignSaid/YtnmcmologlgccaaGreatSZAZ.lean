/- ConstructDesign: the program's side. No condition beyond those stated. -/
import Derived.Test.YtnmcmologlgccaaGreatSZAY
set_option linter.unusedVariables false
set_option linter.unusedSimpArgs false
namespace Go.Proofs.YtnmcmologlgccaaGreat
open Go.RowKit
def repB (bs : List (List Int)) : Nat → List (List Int)
  | 0 => []
  | m + 1 => repB bs m ++ bs
theorem repB_len (bs : List (List Int)) (m : Nat) : (repB bs m).length = m * bs.length := by
  induction m with
  | zero => simp [repB]
  | succ m ih => rw [repB, List.length_append, ih, Nat.succ_mul]
theorem repB_mem {bs : List (List Int)} {m : Nat} {s : List Int} (h : s ∈ repB bs m) : s ∈ bs := by
  induction m with
  | zero => simp [repB] at h
  | succ m ih =>
    rcases List.mem_append.1 h with h | h
    · exact ih h
    · exact h
def mulO (v k l : Nat) : Nat → Nat → Option (List (List Int))
  | 0, _ => none
  | f + 1, m => if l % m = 0 then (match smpD v k (l / m) with
      | some (_, bs) => if m * bs.length ≤ 128 then some (srtR (repB bs m)) else mulO v k l f (m + 1)
      | none => mulO v k l f (m + 1)) else mulO v k l f (m + 1)
def conD (v k l : Nat) : Option (Nat × List (List Int)) := match smpD v k l with
  | some x => some x
  | none => (mulO v k l (l - 1) 2).map fun bs => (8, bs)
def RetC3 (w : World) (v : Int) (bs : List (List Int)) (con code : Int) (e : Ending) (w' : World) : Prop := ∃ A n c, e = .returned (.tuple #[.agg #[.int .i64 v, .slice A n c], .int .i64 con, .int .i64 code]) ∧ OR w' w.heap.size 36 2 A n c bs ∧ Below w.heap.size w w'
def RetCO (w : World) (v : Nat) (o : Option (Nat × List (List Int))) (e : Ending) (w' : World) : Prop :=
  match o with
  | some (c, bs) => RetC3 w v bs c 0 e w'
  | none => RetC3 w 0 [] 0 3 e w'
structure SimpOk : Prop where
  base : BaseOk
  bal : ∀ v k l c bs, InR v k l → smpD v k l = some (c, bs) → Bal v bs k l
theorem InR.part {v k l m : Nat} (h : InR v k l) (hm : 1 ≤ m) (hml : m ≤ l) : InR v k (l / m) :=
  ⟨h.v3, h.v32, h.k2, h.kv, Nat.div_pos hml hm, Nat.le_trans (Nat.div_le_self l m) h.l1000⟩
theorem mem_rowH {bs : List (List Int)} {r : List Int} (h : r ∈ bs) : ∃ i, i < bs.length ∧ row bs i = r := by
  obtain ⟨i, hi, rfl⟩ := List.mem_iff_getElem.1 h
  exact ⟨i, hi, row_get hi⟩
set_option maxRecDepth 100000 in
set_option maxHeartbeats 8000000 in
theorem constructDesign_out (v k l : Int) (w : World) (h : inRng v k l = false ∨ 32 < v) (h64 : I64 v ∧ I64 k ∧ I64 l) :
    Calls Tryz.prog 7 #[.int .i64 v, .int .i64 k, .int .i64 l] w (RetC3 w 0 [] 0 2) := by
  have hb0 := below_alloc w (.cells #[.int .i64 0, .slice none 0 0] 28)
  have Y := Blk.new w 28 #[.int .i64 0, .slice none 0 0]
  obtain ⟨y0, y1⟩ := Y.cells2
  have f0 := Y.frozen 0
  have f1 := Y.frozen 1
  have hi := inRange_any v k l (w.alloc (.cells #[.int .i64 0, .slice none 0 0] 28))
  cases hr : inRng v k l with
  | false =>
    rw [hr] at hi
    clear h hr Y
    go_enter Tryz.func7, Tryz.ntmps7
    go_wp2_with fail
    refine hi.mono ?_
    rintro e w' ⟨rfl, rfl⟩
    go_wp2
    exact bodyPost_ret (v := .tuple #[.agg #[.int .i64 0, .slice none 0 0], .int .i64 0, .int .i64 2]) (by simp [results, Tryz.results7, go_sem, y0, y1]) rfl ⟨none, 0, 0, rfl, OR.nil_ _ _ (by decide), hb0⟩
  | true =>
    rw [hr] at hi
    have h32 : 32 < v := by
      rcases h with h | h
      · rw [hr] at h; cases h
      · exact h
    clear h hr Y
    go_enter Tryz.func7, Tryz.ntmps7
    go_wp2_with fail
    refine hi.mono ?_
    rintro e w' ⟨rfl, rfl⟩
    go_wp2
    exact bodyPost_ret (v := .tuple #[.agg #[.int .i64 0, .slice none 0 0], .int .i64 0, .int .i64 2]) (by simp [results, Tryz.results7, go_sem, y0, y1]) rfl ⟨none, 0, 0, rfl, OR.nil_ _ _ (by decide), hb0⟩
set_option maxRecDepth 100000 in
set_option maxHeartbeats 8000000 in
theorem constructDesign_in (hB : SimpOk) (v k l : Nat) (w : World) (hr : InR v k l) :
    Calls Tryz.prog 7 #[.int .i64 v, .int .i64 k, .int .i64 l] w (RetCO w v (conD v k l)) := by
  have hb0 := below_alloc w (.cells #[.int .i64 0, .slice none 0 0] 28)
  have Y := Blk.new w 28 #[.int .i64 0, .slice none 0 0]
  have hz0 : (w.alloc (.cells #[.int .i64 0, .slice none 0 0] 28)).heap.size = w.heap.size + 1 := by simp
  have HFS := Lib.hid (fun (l' : Nat) (W : World) (hr' : InR v k l') => firstSimple_any hB.base v k l' W hr')
  have hfs := HFS.out l (w.alloc (.cells #[.int .i64 0, .slice none 0 0] 28)) hr
  have HR := Lib.hid hr
  obtain ⟨v3, v32, k2, kv, l1, l1000⟩ := hr
  have hi := inRange_any v k l (w.alloc (.cells #[.int .i64 0, .slice none 0 0] 28))
  rw [show inRng v k l = true by simp [inRng, inB]; omega] at hi
  have hv32 : ¬ (32 : Int) < v := by omega
  cases hfo : smpD v k l with
  | some x =>
    obtain ⟨c, bs⟩ := x
    rw [hfo] at hfs
    have HF := Lib.hid (show conD v k l = some (c, bs) by unfold conD; rw [hfo])
    clear hfo hB HFS
    go_enter Tryz.func7, Tryz.ntmps7
    go_wp2_with fail
    refine hi.mono ?_
    rintro e w' ⟨rfl, rfl⟩
    go_wp2_with fail
    refine hfs.mono ?_
    rintro e w5 ⟨A, n, cc, rfl, ho, hb5⟩
    have Y6 := (Y.after hb5).alloc (.cells #[.int .i64 (v : Int), .slice A n cc] 28)
    have Z6 := Blk.new w5 28 #[.int .i64 (v : Int), .slice A n cc]
    have hw5 := hb0.trans (hb5.mono hb0.size)
    have hw6 := hw5.alloc hw5.size (.cells #[.int .i64 (v : Int), .slice A n cc] 28)
    have ho6 := ho.alloc (.cells #[.int .i64 (v : Int), .slice A n cc] 28)
    obtain ⟨y0, y1⟩ := Y6.cells2
    obtain ⟨z0, z1⟩ := Z6.cells2
    have f0 := Y6.frozen 0
    have f1 := Y6.frozen 1
    obtain ⟨q0, q1, q2, q3⟩ := fin_store (v := (v : Int)) Y6 hw6 ho6 (by omega)
    have Q := Lib.hid (And.intro q0 q1)
    clear q0 q1 hfs hi ho hb5 Y Y6 Z6 hw5 hw6 ho6
    go_wp2
    refine bodyPost_ret (v := .tuple #[.agg #[.int .i64 (v : Int), .slice A n cc], .int .i64 c, .int .i64 0]) (by simp [results, Tryz.results7, go_sem, q2, q3]) rfl ?_
    rw [HF.out]
    exact ⟨A, n, cc, rfl, Q.out.1, Q.out.2⟩
  | none =>
    rw [hfo] at hfs
    have HF := Lib.hid (show conD v k l = (mulO v k l (l - 1) 2).map (fun bs => (8, bs)) by unfold conD; rw [hfo])
    have HB := Lib.hid hB
    clear hfo hB
    go_enter Tryz.func7, Tryz.ntmps7
    go_wp2_with fail
    refine hi.mono ?_
    rintro e w' ⟨rfl, rfl⟩
    go_wp2_with fail
    refine hfs.mono ?_
    rintro e w1 ⟨A, n, cc, rfl, -, hb1⟩
    have Y1 := (Y.after hb1).alloc (.cells #[.int .i64 0, .slice A n cc] 28)
    have hw1 := (hb0.trans (hb1.mono hb0.size)).alloc (by have := hb1.size; omega) (.cells #[.int .i64 0, .slice A n cc] 28)
    have hz1 : w.heap.size + 1 ≤ (w1.alloc (.cells #[.int .i64 0, .slice A n cc] 28)).heap.size := by have := hb1.size; simp; omega
    clear hfs hb0 hb1 Y hz0 hi
    go_wp2
    generalize w1.alloc (.cells #[.int .i64 0, .slice A n cc] 28) = W1 at *
    go_loopw [12] (fun mv wr => ∃ m : Nat, 2 ≤ m ∧ m ≤ l + 1 ∧ mv = .int .i64 m ∧ Hid (conD v k l = (mulO v k l (l + 1 - m) m).map (fun bs => (8, bs))) ∧ Below (w.heap.size + 1) W1 wr) (fun mv _ => l + 1 - (intOf mv).toNat)
    case atStart => exact ⟨2, by omega, by omega, rfl, Lib.hid (by rw [HF.out, show l + 1 - 2 = l - 1 by omega]), Below.refl _ _⟩
    case round =>
      obtain ⟨m, hm2, hml, rfl, HM, hb⟩ := hrel
      have hwr := hw1.trans (hb.mono (by omega))
      have hbs := hb.size
      have Y2 := Y1.below hb (by omega)
      by_cases hlt : m ≤ l
      · obtain ⟨f, hf⟩ : ∃ f, l + 1 - m = f + 1 := ⟨l - m, by omega⟩
        have hf2 : l + 1 - (m + 1) = f := by omega
        have HS : Hid (conD v k l = (if l % m = 0 then (match smpD v k (l / m) with
            | some (_, bs) => if m * bs.length ≤ 128 then some (srtR (repB bs m)) else mulO v k l f (m + 1)
            | none => mulO v k l f (m + 1)) else mulO v k l f (m + 1)).map (fun bs => (8, bs))) := Lib.hid (by rw [HM.out, hf]; rfl)
        clear HM hf
        have hne : ¬ (m : Int) = 0 := by omega
        by_cases hmod : l % m = 0
        · have t1 : ((l : Int) % (m : Int) == 0) = true := by simp; omega
          have t2 : ((l : Int) % (m : Int) != 0) = false := by simp; omega
          have e1 : (l : Int) / (m : Int) = ((l / m : Nat) : Int) := rfl
          have HS2 := Lib.hid (HS.out.trans (congrArg _ (if_pos hmod)))
          have hrp := HR.out.part (m := m) (by omega) hlt
          have hfs := HFS.out (l / m) wr hrp
          clear hmod HS
          cases hfo : smpD v k (l / m) with
          | none =>
            rw [hfo] at HS2 hfs
            have HM2 : Hid (conD v k l = (mulO v k l (l + 1 - (m + 1)) (m + 1)).map (fun bs => (8, bs))) := Lib.hid (by rw [hf2]; exact HS2.out)
            clear hfo HS2 hf2
            have hlm := hrp.l1000
            generalize l / m = lm at *
            go_wp2_with fail
            refine hfs.mono ?_
            rintro e w5 ⟨A5, n5, c5, rfl, -, hb5⟩
            have hb7 := (hb.trans (hb5.mono (by omega))).alloc (by have := hb5.size; omega) (.cells #[.int .i64 0, .slice A5 n5 c5] 28)
            clear hfs hb5
            go_wp2
            exact ⟨⟨m + 1, by omega, by omega, by go_num, HM2, hb7⟩, by simp only [intOf]; omega⟩
          | some x =>
            obtain ⟨c, bs⟩ := x
            rw [hfo] at HS2 hfs
            have hbal := HB.out.bal v k (l / m) c bs hrp hfo
            have HBL := Lib.hid hbal
            clear hfo
            have hlm := hrp.l1000
            generalize l / m = lm at *
            go_wp2_with fail
            refine hfs.mono ?_
            rintro e w5 ⟨A5, n5, c5, rfl, ho5, hb5⟩
            have hs5 := hb5.size
            have hnl := ho5.len
            have hn128 := hbal.d.len
            have Z5 := Blk.new w5 28 #[.int .i64 (v : Int), .slice A5 n5 c5]
            have hb7 := (hb.trans (hb5.mono (by omega))).alloc (by omega) (.cells #[.int .i64 (v : Int), .slice A5 n5 c5] 28)
            have hr6 := ho5.reads.keep (below_alloc w5 (.cells #[.int .i64 (v : Int), .slice A5 n5 c5] 28))
            have hz7 : w5.heap.size < (w5.alloc (.cells #[.int .i64 (v : Int), .slice A5 n5 c5] 28)).heap.size := by simp
            obtain ⟨z0, z1⟩ := Z5.cells2
            have hm1000 : m ≤ 1000 := by omega
            have mm1 : (m : Int) * n5 ≤ 1000 * 128 := Int.mul_le_mul (by omega) (by omega) (by omega) (by omega)
            have mm0 : 0 ≤ (m : Int) * n5 := Int.mul_nonneg (by omega) (by omega)
            clear hfs ho5 hb5 hbal
            by_cases hle : m * bs.length ≤ 128
            · have hgt : ¬ (128 : Int) < (m : Int) * n5 := by
                have : ((m * n5 : Nat) : Int) ≤ 128 := by rw [hnl] at hle; omega
                push_cast at this
                omega
              have HE := Lib.hid (show conD v k l = some (8, srtR (repB bs m)) by rw [HS2.out]; show Option.map _ (if m * bs.length ≤ 128 then some (srtR (repB bs m)) else _) = _; rw [if_pos hle]; rfl)
              have HLE := Lib.hid hle
              clear HS2 hle
              go_wp2_with (go_at_call 24; refine (sizeR_any _ _ _ _ (by omega)).mono ?_; rintro e w' ⟨rfl, rfl⟩)
              clear z0 z1
              generalize w5.alloc (.cells #[.int .i64 (v : Int), .slice A5 n5 c5] 28) = W6 at *
              generalize w5.heap.size = gd at *
              obtain ⟨D, hD⟩ : ∃ D, D = W6.heap.size := ⟨_, rfl⟩
              have HD := Lib.hid hD
              have HBC := Lib.hid (fun (W : World) (h : Below D W6 W) => show Below W6.heap.size W6 W from hD ▸ h)
              obtain ⟨us, hus, hua⟩ := hr6.sls
              have hul : us.length = n5 := by rw [hus.len, hnl]
              have hDw : w.heap.size + 1 ≤ D := by have := hb7.size; omega
              have hgD : gd < D := by omega
              clear hD
              go_loopw [16, 70] (fun lv iv wr => ∃ (i j : Nat) (B : Option Addr) (bc : Nat) (vs : List Sl), i ≤ m ∧ iv = .int .i64 i ∧ lv = .slice B j bc ∧ OS wr D 36 1 B j bc (vs.map slv) ∧ Rows W6 vs (repB bs i) ∧ Below D W6 wr) (fun _ iv _ => m - (intOf iv).toNat)
              case atStart => exact ⟨0, 0, none, 0, [], Nat.zero_le _, rfl, rfl, OS.nil_ _ _ _ 1, Rows.nil_ _, by rw [HD.out]; exact Below.refl _ _⟩
              case round =>
                obtain ⟨i, j, B, bc, vs, hi, rfl, rfl, ho, hrw, hbi⟩ := hrel
                have hbis := hbi.size
                have hjl : j = i * n5 := by
                  have h1 := ho.len
                  have h2 := hrw.len
                  rw [repB_len, hnl] at h2
                  rw [List.length_map] at h1
                  omega
                have hjm : i * n5 ≤ m * n5 := Nat.mul_le_mul hi (Nat.le_refl _)
                have hmn : m * n5 ≤ 128 := by have := HLE.out; rwa [hnl] at this
                have hj128 : j ≤ 128 := by omega
                clear hjl hjm hmn
                by_cases hli : i < m
                · obtain ⟨z0, z1⟩ := (Z5.after (HBC.out _ hbi)).cells2
                  have hua2 : ∀ j v, us[j]? = some v → ∃ ad, A5 = some ad ∧ wr.cell? (ad.add j) = some (slv v) := fun j v hj => by
                    obtain ⟨ad, h1, h2⟩ := hua j v hj
                    exact ⟨ad, h1, below_cell (HBC.out _ hbi) h2⟩
                  go_wp2_with (at_builtin; refine app_sls _ rfl (.tmp 72) (.tmp 74) rfl D B j bc vs rfl ho A5 n5 c5 us rfl hul hua2 (by omega) (by have := HD.out; omega) ?_; intro A7 c7 w7 ho7 hg7 hf7; have hb77 := below_own hbi hg7 (by have := HD.out; omega) (fun b hb => (ho.lt hb).1))
                  go_round
                  case rel => exact ⟨i + 1, j + n5, A7, c7, vs ++ us, by omega, by go_num, rfl, ho7, hrw.appH hus, hb77⟩
                  case measure => simp only [intOf]; omega
                · obtain rfl : i = m := by omega
                  have hrr := (hrw.keep (HBC.out _ hbi)).reads ho
                  have hll := hrr.len
                  have hlc : cells (repB bs i) ≤ 1099511627776 := by
                    have := cells_le3 (bs := repB bs i) (fun s hs => by
                      obtain ⟨q, hq, rfl⟩ := mem_rowH (repB_mem hs)
                      have h1 := HBL.out.len q hq
                      omega)
                    omega
                  generalize repB bs i = L at *
                  subst hll
                  have hso := sorted_any (v : Int) B L.length bc L wr hrr (by omega) hlc
                  have hwr2 := hw1.trans ((hb7.trans (hbi.mono (by omega))).mono (by omega))
                  have Y7 := Y1.below (hb7.trans (hbi.mono (by omega))) (by omega)
                  have hDr : D ≤ wr.heap.size := by have := HD.out; omega
                  clear hrr hrw ho hul hus hua hnl
                  go_wp2_with fail
                  refine hso.mono ?_
                  rintro e w8 ⟨A8, c8, rfl, ho8, hb8⟩
                  have Y6 := (Y7.after hb8).alloc (.cells #[.int .i64 (v : Int), .slice A8 L.length c8] 28)
                  have Z6 := Blk.new w8 28 #[.int .i64 (v : Int), .slice A8 L.length c8]
                  have hw8 := hwr2.trans (hb8.mono hwr2.size)
                  have hw6 := hw8.alloc hw8.size (.cells #[.int .i64 (v : Int), .slice A8 L.length c8] 28)
                  have ho6 := ho8.alloc (.cells #[.int .i64 (v : Int), .slice A8 L.length c8] 28)
                  obtain ⟨y0, y1⟩ := Y6.cells2
                  obtain ⟨z0, z1⟩ := Z6.cells2
                  have f0 := Y6.frozen 0
                  have f1 := Y6.frozen 1
                  obtain ⟨q0, q1, q2, q3⟩ := fin_store (v := (v : Int)) Y6 hw6 ho6 (by omega)
                  have Q := Lib.hid (And.intro q0 q1)
                  clear q0 q1 hso Y6 Z6 Y7 hw8 hw6 ho6 ho8 hb8
                  go_wp2
                  refine bodyPost_ret (v := .tuple #[.agg #[.int .i64 (v : Int), .slice A8 L.length c8], .int .i64 8, .int .i64 0]) (by simp [results, Tryz.results7, go_sem, q2, q3]) rfl ?_
                  rw [HE.out]
                  exact ⟨A8, L.length, c8, rfl, Q.out.1, Q.out.2⟩
            · have hgt : (128 : Int) < (m : Int) * n5 := by
                have : (128 : Int) < ((m * n5 : Nat) : Int) := by rw [hnl] at hle; omega
                push_cast at this
                omega
              have HM2 : Hid (conD v k l = (mulO v k l (l + 1 - (m + 1)) (m + 1)).map (fun bs => (8, bs))) := Lib.hid (by rw [hf2, HS2.out]; show Option.map _ (if m * bs.length ≤ 128 then some (srtR (repB bs m)) else _) = _; rw [if_neg hle])
              clear HS2 hle hf2
              go_wp2_with (go_at_call 24; refine (sizeR_any _ _ _ _ (by omega)).mono ?_; rintro e w' ⟨rfl, rfl⟩)
              exact ⟨⟨m + 1, by omega, by omega, by go_num, HM2, hb7⟩, by simp only [intOf]; omega⟩
        · have t1 : ((l : Int) % (m : Int) == 0) = false := by simp; omega
          have t2 : ((l : Int) % (m : Int) != 0) = true := by simp; omega
          have HM2 : Hid (conD v k l = (mulO v k l (l + 1 - (m + 1)) (m + 1)).map (fun bs => (8, bs))) := Lib.hid (by rw [hf2]; exact HS.out.trans (congrArg _ (if_neg hmod)))
          clear HS hmod hf2
          go_wp2
          exact ⟨⟨m + 1, by omega, by omega, by go_num, HM2, hb⟩, by simp only [intOf]; omega⟩
      · obtain rfl : m = l + 1 := by omega
        have HE := Lib.hid (show conD v k l = none by rw [HM.out, show l + 1 - (l + 1) = 0 by omega]; rfl)
        clear HM
        obtain ⟨y0, y1⟩ := Y2.cells2
        have f0 := Y2.frozen 0
        have f1 := Y2.frozen 1
        obtain ⟨q0, q1, q2, q3⟩ := fin_store (v := 0) (A := none) (n := 0) (c := 0) (bs := []) Y2 hwr (OR.nil_ _ (w.heap.size + 1) (by decide)) (by omega)
        have Q := Lib.hid (And.intro q0 q1)
        clear q0 q1
        go_wp2
        refine bodyPost_ret (v := .tuple #[.agg #[.int .i64 0, .slice none 0 0], .int .i64 0, .int .i64 3]) (by simp [results, Tryz.results7, go_sem, q2, q3]) rfl ?_
        rw [HE.out]
        exact ⟨none, 0, 0, rfl, Q.out.1, Q.out.2⟩
def sumNB (n : Nat) (f : Nat → Nat) : Nat := ((List.range n).map f).sum
theorem sumNB_succ (n : Nat) (f : Nat → Nat) : sumNB (n + 1) f = sumNB n f + f n := by simp [sumNB, List.range_succ]
theorem sumNB_zero (f : Nat → Nat) : sumNB 0 f = 0 := rfl
theorem sumNB_add (n : Nat) (f g : Nat → Nat) : sumNB n (fun i => f i + g i) = sumNB n f + sumNB n g := by
  induction n with
  | zero => rfl
  | succ n ih => rw [sumNB_succ, sumNB_succ, sumNB_succ, ih]; omega
theorem sumNB_const (n c : Nat) : sumNB n (fun _ => c) = n * c := by
  induction n with
  | zero => simp [sumNB_zero]
  | succ n ih => rw [sumNB_succ, ih, Nat.succ_mul]
theorem sumNB_congr {n : Nat} {f g : Nat → Nat} (h : ∀ i, i < n → f i = g i) : sumNB n f = sumNB n g := by
  induction n with
  | zero => rfl
  | succ n ih => rw [sumNB_succ, sumNB_succ, ih fun i hi => h i (by omega), h n (by omega)]
theorem sumNB_none {n y c : Nat} (h : n ≤ y) : sumNB n (fun i => if i = y then c else 0) = 0 := by
  induction n with
  | zero => rfl
  | succ n ih => rw [sumNB_succ, ih (by omega), if_neg (by omega)]
theorem sumNB_one {n y c : Nat} (h : y < n) : sumNB n (fun i => if i = y then c else 0) = c := by
  induction n with
  | zero => omega
  | succ n ih =>
    rw [sumNB_succ]
    by_cases e : y = n
    · subst e; rw [sumNB_none (Nat.le_refl _), if_pos rfl]; omega
    · rw [ih (by omega), if_neg (by omega)]; rfl
theorem sumNB_count {v : Nat} : ∀ {L : List Int}, (∀ z ∈ L, ∃ y : Nat, z = (y : Int) ∧ y < v) → sumNB v (fun x => L.count (x : Int)) = L.length := by
  intro L
  induction L with
  | nil => intro _; simp only [List.count_nil, List.length_nil]; rw [sumNB_const]; rfl
  | cons z L ih =>
    intro h
    obtain ⟨y, rfl, hy⟩ := h z (List.mem_cons_self ..)
    have e : sumNB v (fun x => ((y : Int) :: L).count (x : Int)) = sumNB v (fun x => L.count (x : Int) + if x = y then 1 else 0) := sumNB_congr fun x _ => by
      rw [List.count_cons]
      by_cases e : x = y
      · subst e; simp
      · have : ((y : Int) == (x : Int)) = false := by simp; omega
        rw [this, if_neg e]; simp
    rw [e, sumNB_add, ih fun z hz => h z (List.mem_cons_of_mem _ hz), sumNB_one hy, List.length_cons]
theorem pairN_cons (r : List Int) (bs : List (List Int)) (x y : Int) : pairN (r :: bs) x y = pairN bs x y + if tB (x ∈ r) && tB (y ∈ r) then 1 else 0 := by
  unfold pairN
  rw [List.countP_cons]
theorem count01 {r : List Int} (h : ∀ a, r.count a ≤ 1) (y : Int) : r.count y = if tB (y ∈ r) then 1 else 0 := by
  have := h y
  by_cases hm : y ∈ r
  · rw [tB_yes hm, if_pos rfl]
    have := List.count_pos_iff.2 hm
    omega
  · rw [tB_no hm]
    have := List.count_eq_zero.2 hm
    simpa using this
theorem count_pair {x y : Int} : ∀ {bs : List (List Int)}, (∀ r ∈ bs, ∀ a, r.count a ≤ 1) → ((bs.filter (fun r => tB (x ∈ r))).flatten).count y = pairN bs x y := by
  intro bs
  induction bs with
  | nil => intro _; rfl
  | cons r bs ih =>
    intro h
    have h1 := ih fun r hr => h r (List.mem_cons_of_mem _ hr)
    have h2 := count01 (h r (List.mem_cons_self ..)) y
    rw [pairN_cons]
    cases hx : tB (x ∈ r) with
    | true => rw [List.filter_cons_of_pos (by simpa using hx), List.flatten_cons, List.count_append, h1, h2, Bool.true_and]; omega
    | false => rw [List.filter_cons_of_neg (by simpa using hx), h1]; simp
theorem count_self {x : Int} : ∀ {bs : List (List Int)}, (∀ r ∈ bs, ∀ a, r.count a ≤ 1) → bs.flatten.count x = pairN bs x x := by
  intro bs
  induction bs with
  | nil => intro _; rfl
  | cons r bs ih =>
    intro h
    rw [pairN_cons, List.flatten_cons, List.count_append, ih fun r hr => h r (List.mem_cons_of_mem _ hr), count01 (h r (List.mem_cons_self ..)) x, Bool.and_self]
    omega
theorem flat_k {k : Nat} : ∀ {bs : List (List Int)}, (∀ r ∈ bs, r.length = k) → bs.flatten.length = bs.length * k := by
  intro bs
  induction bs with
  | nil => intro _; simp
  | cons r bs ih =>
    intro h
    rw [List.flatten_cons, List.length_append, ih fun r hr => h r (List.mem_cons_of_mem _ hr), h r (List.mem_cons_self ..), List.length_cons, Nat.succ_mul]
    omega
theorem pair_comm (bs : List (List Int)) (x y : Int) : pairN bs x y = pairN bs y x := by
  unfold pairN
  congr 1
  funext r
  rw [Bool.and_comm]
theorem mem_rowB {bs : List (List Int)} {r : List Int} (h : r ∈ bs) : ∃ i, i < bs.length ∧ row bs i = r := by
  obtain ⟨i, hi, rfl⟩ := List.mem_iff_getElem.1 h
  exact ⟨i, hi, row_get hi⟩
theorem mem_nthB {r : List Int} {z : Int} (h : z ∈ r) : ∃ i, i < r.length ∧ nth r i = z := by
  obtain ⟨i, hi, rfl⟩ := List.mem_iff_getElem.1 h
  exact ⟨i, hi, nth_get hi⟩
theorem lt_of_up {r : List Int} (h : ∀ i, i + 1 < r.length → nth r i < nth r (i + 1)) : ∀ d i, i + d + 1 < r.length → nth r i < nth r (i + d + 1) := by
  intro d
  induction d with
  | zero => intro i hi; exact h i hi
  | succ d ih =>
    intro i hi
    have h1 := ih i (by omega)
    have h2 := h (i + d + 1) (by omega)
    rw [show i + (d + 1) + 1 = i + d + 1 + 1 by omega]
    omega
theorem Bal.eqs {v k : Nat} {bs : List (List Int)} {lam : Int} (h : Bal v bs k lam) :
    ∃ L r : Nat, lam = (L : Int) ∧ r = bs.flatten.count 0 ∧ k * r + L = v * L + r ∧ v * r = bs.length * k ∧ L ≤ bs.length := by
  have hc : ∀ r ∈ bs, ∀ a, r.count a ≤ 1 := fun r hr => by
    obtain ⟨i, hi, rfl⟩ := mem_rowB hr
    have hb := (h.d.blk i hi).2
    have hup := lt_of_up (r := row bs i) hb.up
    refine List.nodup_iff_count.1 ?_
    rw [List.Nodup, List.pairwise_iff_getElem]
    intro a b ha hb' hab
    have := hup (b - a - 1) a (by omega)
    rw [show a + (b - a - 1) + 1 = b by omega, nth_get ha, nth_get hb'] at this
    omega
  have hk : ∀ r ∈ bs, r.length = k := fun r hr => by
    obtain ⟨i, hi, rfl⟩ := mem_rowB hr
    exact h.len i hi
  have hz : ∀ r ∈ bs, ∀ z ∈ r, ∃ y : Nat, z = (y : Int) ∧ y < v := fun r hr z hz => by
    obtain ⟨i, hi, rfl⟩ := mem_rowB hr
    obtain ⟨j, hj, rfl⟩ := mem_nthB hz
    exact (des_row h.d hi).2 j hj
  have hl1 : ∀ a b : Nat, a < b → b < v → ((pairN bs (a : Int) (b : Int) : Nat) : Int) = lam := fun a b hab hb => by
    have hm : ((pairN bs (a : Int) (b : Int) : Nat) : Int) ∈ prP v bs v := by
      unfold prP
      refine List.mem_flatMap.2 ⟨a, List.mem_range.2 (by omega), ?_⟩
      unfold prB
      refine List.mem_map.2 ⟨b - a - 1, List.mem_range.2 (by omega), ?_⟩
      rw [show a + 1 + (b - a - 1) = b by omega]
    obtain ⟨j, hj, e⟩ := mem_nthB hm
    rw [← e]
    exact h.lam j hj
  have hv := h.v2
  have hL := hl1 0 1 (by omega) (by omega)
  have hle := pair_le bs ((0 : Nat) : Int) ((1 : Nat) : Int)
  obtain ⟨L, hLe⟩ : ∃ L, L = pairN bs ((0 : Nat) : Int) ((1 : Nat) : Int) := ⟨_, rfl⟩
  rw [← hLe] at hL hle
  have hl2 : ∀ a b : Nat, a ≠ b → a < v → b < v → pairN bs (a : Int) (b : Int) = L := fun a b hne ha hb => by
    rcases Nat.lt_or_gt_of_ne hne with hh | hh
    · have := hl1 a b hh hb; omega
    · have := hl1 b a hh ha; rw [pair_comm] at this; omega
  have hx : ∀ x, x < v → k * pairN bs (x : Int) (x : Int) + L = v * L + pairN bs (x : Int) (x : Int) := fun x hx => by
    have h1 : sumNB v (fun y => pairN bs (x : Int) (y : Int)) = pairN bs (x : Int) (x : Int) * k := by
      have e := sumNB_count (v := v) (L := (bs.filter (fun r => tB ((x : Int) ∈ r))).flatten) (fun z hz' => by
        obtain ⟨r, hr, hzr⟩ := List.mem_flatten.1 hz'
        exact hz r (List.mem_filter.1 hr).1 z hzr)
      rw [flat_k fun r hr => hk r (List.mem_filter.1 hr).1] at e
      rw [← sumNB_congr (fun y _ => count_pair (x := (x : Int)) (y := (y : Int)) hc), e]
      congr 1
      unfold pairN
      rw [List.countP_eq_length_filter]
      simp
    have h2 : sumNB v (fun y => pairN bs (x : Int) (y : Int) + if y = x then L else 0) = sumNB v (fun y => L + if y = x then pairN bs (x : Int) (x : Int) else 0) := sumNB_congr fun y hy => by
      by_cases e : y = x
      · subst e; rw [if_pos rfl, if_pos rfl]; omega
      · rw [if_neg e, if_neg e, hl2 x y (fun e' => e e'.symm) hx hy]
    rw [sumNB_add, sumNB_add, sumNB_one hx, sumNB_one hx, sumNB_const, h1, Nat.mul_comm _ k] at h2
    exact h2
  have h0 := hx 0 (by omega)
  have hk2 := h.k2
  obtain ⟨k', rfl⟩ : ∃ k', k = k' + 1 := ⟨k - 1, by omega⟩
  have hxr : ∀ x, x < v → pairN bs (x : Int) (x : Int) = pairN bs ((0 : Nat) : Int) ((0 : Nat) : Int) := fun x hxv => by
    have h1 := hx x hxv
    rw [Nat.succ_mul] at h1 h0
    have h2 : k' * pairN bs (x : Int) (x : Int) = k' * pairN bs ((0 : Nat) : Int) ((0 : Nat) : Int) := by omega
    exact Nat.eq_of_mul_eq_mul_left (by omega) h2
  refine ⟨L, pairN bs ((0 : Nat) : Int) ((0 : Nat) : Int), hL.symm, (count_self hc).symm, h0, ?_, hle⟩
  have h3 := sumNB_count (v := v) (L := bs.flatten) (fun z hz' => by
    obtain ⟨r, hr, hzr⟩ := List.mem_flatten.1 hz'
    exact hz r hr z hzr)
  rw [flat_k hk, sumNB_congr (g := fun _ => pairN bs ((0 : Nat) : Int) ((0 : Nat) : Int)) (fun x hxv => by rw [count_self hc]; exact hxr x hxv), sumNB_const] at h3
  exact h3
end Go.Proofs.YtnmcmologlgccaaGreat
