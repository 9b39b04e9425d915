/- Triple systems by Skolem's construction, the reference's side. No condition beyond those stated. -/
import Derived.Test.YtnmcmologlgccaaGreatZBE
import Derived.Test.YtnmcmologlgccaaGreatZBD
import Derived.Test.YtnmcmologlgccaaGreatZAH
set_option linter.unusedVariables false
set_option linter.unusedSimpArgs false
namespace Go.Proofs.YtnmcmologlgccaaGreat
open Go.RowKit

/-- three points in order -/
def blkP (a b c : Int) : List Int := putG sgnI (putG sgnI [a] b) c
theorem blk_eq {a b c a' b' c' : Int} (h1 : a = a') (h2 : b = b') (h3 : c = c') : blkP a b c = blkP a' b' c' := by rw [h1, h2, h3]
set_option maxHeartbeats 800000 in
theorem l11Block_any (a b c : Int) (w : World) (ha : I64 a) (hb : I64 b) (hc : I64 c) :
    Calls Tryz.prog 192 #[.int .i64 a, .int .i64 b, .int .i64 c] w (RetI w 2 (blkP a b c)) := by
  have ho := OI.lit w w.heap.size 2 [a] (Nat.le_refl _) (by simp) (All64.one ha)
  have hb0 := below_alloc w (.cells (ints [a]).toArray 2)
  have h1 := l00Put_any _ 1 1 [a] b _ ho.reads (by omega) hb
  clear ho
  go_enter Tryz.func192, Tryz.ntmps192
  go_wp2_with fail
  refine h1.mono ?_
  rintro e w1 ⟨A1, n1, c1, rfl, ho1, hb1⟩
  have hl := ho1.len
  have hlen : n1 ≤ 2 := by
    rw [← hl]
    have := putG_len (c := sgnI) [a] b
    simpa using this
  have h2 := l00Put_any A1 n1 c1 _ c w1 ho1.reads (by omega) hc
  have hb2 := hb0.trans (hb1.mono hb0.size)
  clear h1 hb1 ho1 hl hlen
  go_wp2_with fail
  refine h2.mono ?_
  rintro e w2 ⟨A2, n2, c2, rfl, ho2, hb3⟩
  have ho3 := ho2.more hb2.size
  have hb4 := hb2.trans (hb3.mono hb2.size)
  clear h2 hb3 ho2
  go_wp2
  go_ret
  exact ⟨_, _, _, rfl, ho3, hb4⟩
def skoB (t x i : Nat) : List (List Int) := (List.range i).map fun i => blkP ((3 * (2 * t) : Nat) : Int) ((x + t + 2 * t * i : Nat) : Int) ((x + 2 * t * ((i + 1) % 3) : Nat) : Int)
def skoA (t x : Nat) : List (List Int) := (List.range x).flatMap fun (x : Nat) => blkP (x : Int) ((x + 2 * t : Nat) : Int) ((x + 2 * (2 * t) : Nat) : Int) :: skoB t x 3
def skoZ (t x y : Nat) : Nat := (x + y) % (2 * t) / 2 + if (x + y) % (2 * t) % 2 = 1 then t else 0
def skoD (t x y i : Nat) : List (List Int) := (List.range i).map fun i => blkP ((x + 2 * t * i : Nat) : Int) ((y + 2 * t * i : Nat) : Int) ((skoZ t x y + 2 * t * ((i + 1) % 3) : Nat) : Int)
def skoE (t x j : Nat) : List (List Int) := (List.range j).flatMap fun d => skoD t x (x + 1 + d) 3
def skoCT (t x : Nat) : List (List Int) := (List.range x).flatMap fun x => skoE t x (2 * t - x - 1)
def skoP (t : Nat) : List (List Int) := skoA t t ++ skoCT t (2 * t)
theorem skoB_step (t x i : Nat) : skoB t x (i + 1) = skoB t x i ++ [blkP ((3 * (2 * t) : Nat) : Int) ((x + t + 2 * t * i : Nat) : Int) ((x + 2 * t * ((i + 1) % 3) : Nat) : Int)] := by simp [skoB, List.range_succ]
theorem skoA_step (t x : Nat) : skoA t (x + 1) = skoA t x ++ [blkP (x : Int) ((x + 2 * t : Nat) : Int) ((x + 2 * (2 * t) : Nat) : Int)] ++ skoB t x 3 := by simp [skoA, List.range_succ, List.flatMap_append]
theorem skoD_step (t x y i : Nat) : skoD t x y (i + 1) = skoD t x y i ++ [blkP ((x + 2 * t * i : Nat) : Int) ((y + 2 * t * i : Nat) : Int) ((skoZ t x y + 2 * t * ((i + 1) % 3) : Nat) : Int)] := by simp [skoD, List.range_succ]
theorem skoE_step (t x j : Nat) : skoE t x (j + 1) = skoE t x j ++ skoD t x (x + 1 + j) 3 := by simp [skoE, List.range_succ, List.flatMap_append]
theorem skoC_step (t x : Nat) : skoCT t (x + 1) = skoCT t x ++ skoE t x (2 * t - x - 1) := by simp [skoCT, List.range_succ, List.flatMap_append]
/-- rows of a call's own that grow -/
def Grw (w wr : World) (A : Option Addr) (k c : Nat) (zss : List (List Int)) : Prop := OR wr w.heap.size 36 2 A k c zss ∧ Below w.heap.size w wr
theorem Grw.start (w w1 : World) (hb : Below w.heap.size w w1) : Grw w (w1.alloc (.cells #[] 36)) (some ⟨w1.heap.size, 0, none⟩) 0 0 [] :=
  ⟨OR.of_own (OS.lit w1 w.heap.size 36 1 0 #[] hb.size rfl (by omega)) (by decide), hb.trans ((below_alloc _ _).mono hb.size)⟩
/-- a row that a call has made, ahead of the append -/
structure GrwR (w w2 : World) (A : Option Addr) (k c : Nat) (vs : List Sl) (zss : List (List Int)) (A2 : Option Addr) (n2 c2 : Nat) (r : List Int) : Prop where
  o : ORv w2 w.heap.size 36 2 A k c vs zss
  r : OI w2 w.heap.size 2 A2 n2 c2 r
  ap : ∀ (j : Nat) (u : Sl), vs[j]? = some u → apart u (A2, n2, c2)
  b : Below w.heap.size w w2
theorem Grw.row {w wr w2 : World} {A : Option Addr} {k c : Nat} {zss : List (List Int)} (h : Grw w wr A k c zss) {A2 : Option Addr} {n2 c2 : Nat} {r : List Int} (ho : OI w2 wr.heap.size 2 A2 n2 c2 r) (hb : Below wr.heap.size wr w2) : ∃ vs, GrwR w w2 A k c vs zss A2 n2 c2 r := by
  obtain ⟨⟨vs, hv⟩, hw⟩ := h
  exact ⟨vs, hv.below hb, ho.more hw.size, hv.apart_new (v := (A2, n2, c2)) (fun b hb => (ho.os.lt hb).1), hw.trans (hb.mono hw.size)⟩
theorem GrwR.done {w w2 w' : World} {A : Option Addr} {k c : Nat} {vs : List Sl} {zss : List (List Int)} {A2 : Option Addr} {n2 c2 : Nat} {r : List Int} (h : GrwR w w2 A k c vs zss A2 n2 c2 r) {A' : Option Addr} {k' c' : Nat} {vs' : List Sl} {zs' : List (List Int)} (ho : ORv w' w.heap.size 36 2 A' k' c' vs' zs') (hg : w2.grownBy w' (blk A)) : Grw w w' A' k' c' zs' :=
  ⟨⟨_, ho⟩, below_own h.b hg h.b.size (fun b hb => (h.o.os.lt hb).1)⟩
theorem Grw.below {w wr w2 : World} {A : Option Addr} {k c : Nat} {zss : List (List Int)} (h : Grw w wr A k c zss) (hb : Below wr.heap.size wr w2) : Grw w w2 A k c zss := ⟨h.1.below hb, h.2.trans (hb.mono h.2.size)⟩
set_option maxRecDepth 100000 in
set_option maxHeartbeats 1000000 in
theorem l11Skolem_any (t : Nat) (w : World) (ht : t ≤ 5) :
    Calls Tryz.prog 162 #[.int .i64 t] w (RetR w 36 2 (skoP t)) := by
  have G0 := Grw.start w w (Below.refl _ _)
  obtain ⟨n, hn⟩ : ∃ n : Nat, n = 2 * t := ⟨_, rfl⟩
  have hnt : 2 * (t : Int) = (n : Int) := by omega
  have hn10 : n ≤ 10 := by omega
  have HN := Lib.hid hn
  clear hn
  go_enter Tryz.func162, Tryz.ntmps162
  go_wp2
  clear hnt
  go_loopw [4, 5] (fun ov xv wr => ∃ (x : Nat) (A : Option Addr) (k c : Nat), x ≤ t ∧ xv = .int .i64 x ∧ ov = .slice A k c ∧ Grw w wr A k c (skoA t x) ∧ k ≤ 4 * x) (fun _ xv _ => t - (intOf xv).toNat)
  case atStart => exact ⟨0, _, 0, 0, Nat.zero_le _, rfl, rfl, by simpa [skoA] using G0, by omega⟩
  case round =>
    clear G0
    obtain ⟨x, A, k, c, hx, rfl, rfl, G, hk⟩ := hrel
    by_cases hlt : x < t
    · go_wp2_with fail
      refine (l11Block_any _ _ _ _ ?_ ?_ ?_).mono ?_
      · unfold I64; omega
      · unfold I64; omega
      · unfold I64; omega
      rintro e w2 ⟨A2, n2, c2, rfl, ho2, hb2⟩
      rw [blk_eq (a' := ((x : Nat) : Int)) (b' := ((x + 2 * t : Nat) : Int)) (c' := ((x + 2 * (2 * t) : Nat) : Int)) (by have := HN.out; omega) (by have := HN.out; omega) (by have := HN.out; omega)] at ho2
      obtain ⟨vs, G⟩ := G.row ho2 hb2
      have hlw := G.b.size
      clear ho2 hb2
      go_wp2_with (at_builtin; refine app_row _ rfl (.tmp 20) (.tmp 30) rfl w.heap.size A k c vs _ rfl G.o (A2, n2, c2) _ G.r G.ap _ rfl (by simp) (Nat.le_trans (Nat.succ_le_succ hk) (by omega)) hlw ?_; intro A3 c3 w3 ho3 hg3 hf3)
      have G := G.done ho3 hg3
      clear ho3 hg3 hf3 hlw
      go_loopw [4, 6] (fun ov iv wr => ∃ (i : Nat) (A : Option Addr) (k c : Nat), i ≤ 3 ∧ iv = .int .i64 i ∧ ov = .slice A k c ∧ Grw w wr A k c (skoA t x ++ [blkP (x : Int) ((x + 2 * t : Nat) : Int) ((x + 2 * (2 * t) : Nat) : Int)] ++ skoB t x i) ∧ k ≤ 4 * x + 1 + i) (fun _ iv _ => 3 - (intOf iv).toNat)
      case atStart => exact ⟨0, A3, k + 1, c3, Nat.zero_le _, rfl, rfl, by simpa [skoB] using G, by omega⟩
      case round =>
        clear G hk
        obtain ⟨i, A, k, c, hi, rfl, rfl, G, hk⟩ := hrel
        by_cases hli : i < 3
        · have h3 : i = 0 ∨ i = 1 ∨ i = 2 := by omega
          clear hli
          rcases h3 with rfl | rfl | rfl
          · go_wp2_with fail
            refine (l11Block_any _ _ _ _ ?_ ?_ ?_).mono ?_
            · unfold I64; omega
            · unfold I64; omega
            · unfold I64; omega
            rintro e w2 ⟨A2, n2, c2, rfl, ho2, hb2⟩
            rw [blk_eq (a' := ((3 * (2 * t) : Nat) : Int)) (b' := ((x + t + 2 * t * 0 : Nat) : Int)) (c' := ((x + 2 * t * ((0 + 1) % 3) : Nat) : Int)) (by have := HN.out; omega) (by have := HN.out; omega) (by have := HN.out; omega)] at ho2
            obtain ⟨vs, G⟩ := G.row ho2 hb2
            have hlw := G.b.size
            clear ho2 hb2
            go_wp2_with (at_builtin; refine app_row _ rfl (.tmp 36) (.tmp 54) rfl w.heap.size A k c vs _ rfl G.o (A2, n2, c2) _ G.r G.ap _ rfl (by simp) (Nat.le_trans (Nat.succ_le_succ hk) (by omega)) hlw ?_; intro A3 c3 w3 ho3 hg3 hf3)
            have G := G.done ho3 hg3
            clear ho3 hg3 hf3 hlw
            rw [List.append_assoc, ← skoB_step] at G
            go_roundw
            case rel => exact ⟨1, A3, k + 1, c3, by omega, by go_num, rfl, G, by omega⟩
            case measure => simp [intOf]
          · go_wp2_with fail
            refine (l11Block_any _ _ _ _ ?_ ?_ ?_).mono ?_
            · unfold I64; omega
            · unfold I64; omega
            · unfold I64; omega
            rintro e w2 ⟨A2, n2, c2, rfl, ho2, hb2⟩
            rw [blk_eq (a' := ((3 * (2 * t) : Nat) : Int)) (b' := ((x + t + 2 * t * 1 : Nat) : Int)) (c' := ((x + 2 * t * ((1 + 1) % 3) : Nat) : Int)) (by have := HN.out; omega) (by have := HN.out; omega) (by have := HN.out; omega)] at ho2
            obtain ⟨vs, G⟩ := G.row ho2 hb2
            have hlw := G.b.size
            clear ho2 hb2
            go_wp2_with (at_builtin; refine app_row _ rfl (.tmp 36) (.tmp 54) rfl w.heap.size A k c vs _ rfl G.o (A2, n2, c2) _ G.r G.ap _ rfl (by simp) (Nat.le_trans (Nat.succ_le_succ hk) (by omega)) hlw ?_; intro A3 c3 w3 ho3 hg3 hf3)
            have G := G.done ho3 hg3
            clear ho3 hg3 hf3 hlw
            rw [List.append_assoc, ← skoB_step] at G
            go_roundw
            case rel => exact ⟨2, A3, k + 1, c3, by omega, by go_num, rfl, G, by omega⟩
            case measure => simp [intOf]
          · go_wp2_with fail
            refine (l11Block_any _ _ _ _ ?_ ?_ ?_).mono ?_
            · unfold I64; omega
            · unfold I64; omega
            · unfold I64; omega
            rintro e w2 ⟨A2, n2, c2, rfl, ho2, hb2⟩
            rw [blk_eq (a' := ((3 * (2 * t) : Nat) : Int)) (b' := ((x + t + 2 * t * 2 : Nat) : Int)) (c' := ((x + 2 * t * ((2 + 1) % 3) : Nat) : Int)) (by have := HN.out; omega) (by have := HN.out; omega) (by have := HN.out; omega)] at ho2
            obtain ⟨vs, G⟩ := G.row ho2 hb2
            have hlw := G.b.size
            clear ho2 hb2
            go_wp2_with (at_builtin; refine app_row _ rfl (.tmp 36) (.tmp 54) rfl w.heap.size A k c vs _ rfl G.o (A2, n2, c2) _ G.r G.ap _ rfl (by simp) (Nat.le_trans (Nat.succ_le_succ hk) (by omega)) hlw ?_; intro A3 c3 w3 ho3 hg3 hf3)
            have G := G.done ho3 hg3
            clear ho3 hg3 hf3 hlw
            rw [List.append_assoc, ← skoB_step] at G
            go_roundw
            case rel => exact ⟨3, A3, k + 1, c3, by omega, by go_num, rfl, G, by omega⟩
            case measure => simp [intOf]
        · obtain rfl : i = 3 := by omega
          rw [← skoA_step] at G
          go_wp2
          go_roundw
          case rel => exact ⟨x + 1, A, k, c, by omega, by go_num, rfl, G, by omega⟩
          case measure => simp [intOf]; omega
    · obtain rfl : x = t := by omega
      go_wp2
      go_loopw [4, 7] (fun ov xv wr => ∃ (a : Nat) (A : Option Addr) (k c : Nat), a ≤ n ∧ xv = .int .i64 a ∧ ov = .slice A k c ∧ Grw w wr A k c (skoA x x ++ skoCT x a) ∧ k ≤ 20 + 30 * a) (fun _ xv _ => n - (intOf xv).toNat)
      case atStart => exact ⟨0, A, k, c, Nat.zero_le _, rfl, rfl, by simpa [skoCT] using G, by omega⟩
      case round =>
        clear G hk
        obtain ⟨a, A, k, c, ha, rfl, rfl, G, hk⟩ := hrel
        by_cases hla : a < n
        · go_wp2
          go_loopw [4, 8] (fun ov yv wr => ∃ (j : Nat) (A : Option Addr) (k c : Nat), a + 1 + j ≤ n ∧ yv = .int .i64 ((a + 1 + j : Nat) : Int) ∧ ov = .slice A k c ∧ Grw w wr A k c (skoA x x ++ skoCT x a ++ skoE x a j) ∧ k ≤ 20 + 30 * a + 3 * j) (fun _ yv _ => n - (intOf yv).toNat)
          case atStart => exact ⟨0, A, k, c, by omega, by go_num, rfl, by simpa [skoE] using G, by omega⟩
          case round =>
            clear G hk
            obtain ⟨j, A, k, c, hj, rfl, rfl, G, hk⟩ := hrel
            obtain ⟨y, hy⟩ : ∃ y, y = a + 1 + j := ⟨_, rfl⟩
            have HY := Lib.hid hy
            rw [← hy] at hj ⊢
            have hj9 : j ≤ 9 := by omega
            clear hy
            by_cases hly : y < n
            · have hn0 : ¬ n = 0 := by omega
              have q1 : ((a : Int) + (y : Int)).tmod (n : Int) = (((a + y) % n : Nat) : Int) := by rw [Int.tmod_eq_emod_of_nonneg (by omega), Int.natCast_emod, Int.natCast_add]
              have HS : Hid (skoZ x a y = (a + y) % n / 2 + if (a + y) % n % 2 = 1 then x else 0) := Lib.hid (by rw [HN.out]; rfl)
              have hsl : (a + y) % n < n := Nat.mod_lt _ (by omega)
              generalize (a + y) % n = s at *
              have q2 : (s : Int).tdiv 2 = ((s / 2 : Nat) : Int) := by rw [Int.tdiv_eq_ediv_of_nonneg (by omega)]; omega
              by_cases hs2 : s % 2 = 1
              · have q3 : (s : Int).tmod 2 = 1 := by rw [Int.tmod_eq_emod_of_nonneg (by omega)]; omega
                have HZ : Hid (skoZ x a y = s / 2 + x) := Lib.hid (by rw [HS.out, if_pos hs2])
                clear HS hs2
                go_wp2
                go_loopw [4, 11] (fun ov iv wr => ∃ (i : Nat) (A : Option Addr) (k c : Nat), i ≤ 3 ∧ iv = .int .i64 i ∧ ov = .slice A k c ∧ Grw w wr A k c (skoA x x ++ skoCT x a ++ skoE x a j ++ skoD x a y i) ∧ k ≤ 20 + 30 * a + 3 * j + i) (fun _ iv _ => 3 - (intOf iv).toNat)
                case atStart => exact ⟨0, A, k, c, Nat.zero_le _, rfl, rfl, by simpa [skoD] using G, by omega⟩
                case round =>
                  clear G hk q1 q2 q3 hn0
                  obtain ⟨i, A, k, c, hi, rfl, rfl, G, hk⟩ := hrel
                  by_cases hli : i < 3
                  · have h3 : i = 0 ∨ i = 1 ∨ i = 2 := by omega
                    clear hli
                    rcases h3 with rfl | rfl | rfl
                    · go_wp2_with fail
                      refine (l11Block_any _ _ _ _ ?_ ?_ ?_).mono ?_
                      · unfold I64; omega
                      · unfold I64; omega
                      · unfold I64; omega
                      rintro e w2 ⟨A2, n2, c2, rfl, ho2, hb2⟩
                      rw [blk_eq (a' := ((a + 2 * x * 0 : Nat) : Int)) (b' := ((y + 2 * x * 0 : Nat) : Int)) (c' := ((skoZ x a y + 2 * x * ((0 + 1) % 3) : Nat) : Int)) (by have := HN.out; omega) (by have := HN.out; omega) (by have := HN.out; have := HZ.out; omega)] at ho2
                      obtain ⟨vs, G⟩ := G.row ho2 hb2
                      have hlw := G.b.size
                      clear ho2 hb2
                      go_wp2_with (at_builtin; refine app_row _ rfl (.tmp 85) (.tmp 104) rfl w.heap.size A k c vs _ rfl G.o (A2, n2, c2) _ G.r G.ap _ rfl (by simp) (Nat.le_trans (Nat.succ_le_succ hk) (by omega)) hlw ?_; intro A3 c3 w3 ho3 hg3 hf3)
                      have G := G.done ho3 hg3
                      clear ho3 hg3 hf3 hlw
                      rw [List.append_assoc, ← skoD_step] at G
                      go_roundw
                      case rel => exact ⟨1, A3, k + 1, c3, by omega, by go_num, rfl, G, by omega⟩
                      case measure => simp [intOf]
                    · go_wp2_with fail
                      refine (l11Block_any _ _ _ _ ?_ ?_ ?_).mono ?_
                      · unfold I64; omega
                      · unfold I64; omega
                      · unfold I64; omega
                      rintro e w2 ⟨A2, n2, c2, rfl, ho2, hb2⟩
                      rw [blk_eq (a' := ((a + 2 * x * 1 : Nat) : Int)) (b' := ((y + 2 * x * 1 : Nat) : Int)) (c' := ((skoZ x a y + 2 * x * ((1 + 1) % 3) : Nat) : Int)) (by have := HN.out; omega) (by have := HN.out; omega) (by have := HN.out; have := HZ.out; omega)] at ho2
                      obtain ⟨vs, G⟩ := G.row ho2 hb2
                      have hlw := G.b.size
                      clear ho2 hb2
                      go_wp2_with (at_builtin; refine app_row _ rfl (.tmp 85) (.tmp 104) rfl w.heap.size A k c vs _ rfl G.o (A2, n2, c2) _ G.r G.ap _ rfl (by simp) (Nat.le_trans (Nat.succ_le_succ hk) (by omega)) hlw ?_; intro A3 c3 w3 ho3 hg3 hf3)
                      have G := G.done ho3 hg3
                      clear ho3 hg3 hf3 hlw
                      rw [List.append_assoc, ← skoD_step] at G
                      go_roundw
                      case rel => exact ⟨2, A3, k + 1, c3, by omega, by go_num, rfl, G, by omega⟩
                      case measure => simp [intOf]
                    · go_wp2_with fail
                      refine (l11Block_any _ _ _ _ ?_ ?_ ?_).mono ?_
                      · unfold I64; omega
                      · unfold I64; omega
                      · unfold I64; omega
                      rintro e w2 ⟨A2, n2, c2, rfl, ho2, hb2⟩
                      rw [blk_eq (a' := ((a + 2 * x * 2 : Nat) : Int)) (b' := ((y + 2 * x * 2 : Nat) : Int)) (c' := ((skoZ x a y + 2 * x * ((2 + 1) % 3) : Nat) : Int)) (by have := HN.out; omega) (by have := HN.out; omega) (by have := HN.out; have := HZ.out; omega)] at ho2
                      obtain ⟨vs, G⟩ := G.row ho2 hb2
                      have hlw := G.b.size
                      clear ho2 hb2
                      go_wp2_with (at_builtin; refine app_row _ rfl (.tmp 85) (.tmp 104) rfl w.heap.size A k c vs _ rfl G.o (A2, n2, c2) _ G.r G.ap _ rfl (by simp) (Nat.le_trans (Nat.succ_le_succ hk) (by omega)) hlw ?_; intro A3 c3 w3 ho3 hg3 hf3)
                      have G := G.done ho3 hg3
                      clear ho3 hg3 hf3 hlw
                      rw [List.append_assoc, ← skoD_step] at G
                      go_roundw
                      case rel => exact ⟨3, A3, k + 1, c3, by omega, by go_num, rfl, G, by omega⟩
                      case measure => simp [intOf]
                  · obtain rfl : i = 3 := by omega
                    rw [HY.out, List.append_assoc, ← skoE_step] at G
                    go_wp2
                    go_roundw
                    case rel => exact ⟨j + 1, A, k, c, by have := HY.out; omega, by rw [HY.out]; go_num, rfl, G, by omega⟩
                    case measure => have := HY.out; simp [intOf]; omega
              · have q3 : (s : Int).tmod 2 = 0 := by rw [Int.tmod_eq_emod_of_nonneg (by omega)]; omega
                have HZ : Hid (skoZ x a y = s / 2) := Lib.hid (by rw [HS.out, if_neg hs2, Nat.add_zero])
                clear HS hs2
                go_wp2
                go_loopw [4, 11] (fun ov iv wr => ∃ (i : Nat) (A : Option Addr) (k c : Nat), i ≤ 3 ∧ iv = .int .i64 i ∧ ov = .slice A k c ∧ Grw w wr A k c (skoA x x ++ skoCT x a ++ skoE x a j ++ skoD x a y i) ∧ k ≤ 20 + 30 * a + 3 * j + i) (fun _ iv _ => 3 - (intOf iv).toNat)
                case atStart => exact ⟨0, A, k, c, Nat.zero_le _, rfl, rfl, by simpa [skoD] using G, by omega⟩
                case round =>
                  clear G hk q1 q2 q3 hn0
                  obtain ⟨i, A, k, c, hi, rfl, rfl, G, hk⟩ := hrel
                  by_cases hli : i < 3
                  · have h3 : i = 0 ∨ i = 1 ∨ i = 2 := by omega
                    clear hli
                    rcases h3 with rfl | rfl | rfl
                    · go_wp2_with fail
                      refine (l11Block_any _ _ _ _ ?_ ?_ ?_).mono ?_
                      · unfold I64; omega
                      · unfold I64; omega
                      · unfold I64; omega
                      rintro e w2 ⟨A2, n2, c2, rfl, ho2, hb2⟩
                      rw [blk_eq (a' := ((a + 2 * x * 0 : Nat) : Int)) (b' := ((y + 2 * x * 0 : Nat) : Int)) (c' := ((skoZ x a y + 2 * x * ((0 + 1) % 3) : Nat) : Int)) (by have := HN.out; omega) (by have := HN.out; omega) (by have := HN.out; have := HZ.out; omega)] at ho2
                      obtain ⟨vs, G⟩ := G.row ho2 hb2
                      have hlw := G.b.size
                      clear ho2 hb2
                      go_wp2_with (at_builtin; refine app_row _ rfl (.tmp 85) (.tmp 104) rfl w.heap.size A k c vs _ rfl G.o (A2, n2, c2) _ G.r G.ap _ rfl (by simp) (Nat.le_trans (Nat.succ_le_succ hk) (by omega)) hlw ?_; intro A3 c3 w3 ho3 hg3 hf3)
                      have G := G.done ho3 hg3
                      clear ho3 hg3 hf3 hlw
                      rw [List.append_assoc, ← skoD_step] at G
                      go_roundw
                      case rel => exact ⟨1, A3, k + 1, c3, by omega, by go_num, rfl, G, by omega⟩
                      case measure => simp [intOf]
                    · go_wp2_with fail
                      refine (l11Block_any _ _ _ _ ?_ ?_ ?_).mono ?_
                      · unfold I64; omega
                      · unfold I64; omega
                      · unfold I64; omega
                      rintro e w2 ⟨A2, n2, c2, rfl, ho2, hb2⟩
                      rw [blk_eq (a' := ((a + 2 * x * 1 : Nat) : Int)) (b' := ((y + 2 * x * 1 : Nat) : Int)) (c' := ((skoZ x a y + 2 * x * ((1 + 1) % 3) : Nat) : Int)) (by have := HN.out; omega) (by have := HN.out; omega) (by have := HN.out; have := HZ.out; omega)] at ho2
                      obtain ⟨vs, G⟩ := G.row ho2 hb2
                      have hlw := G.b.size
                      clear ho2 hb2
                      go_wp2_with (at_builtin; refine app_row _ rfl (.tmp 85) (.tmp 104) rfl w.heap.size A k c vs _ rfl G.o (A2, n2, c2) _ G.r G.ap _ rfl (by simp) (Nat.le_trans (Nat.succ_le_succ hk) (by omega)) hlw ?_; intro A3 c3 w3 ho3 hg3 hf3)
                      have G := G.done ho3 hg3
                      clear ho3 hg3 hf3 hlw
                      rw [List.append_assoc, ← skoD_step] at G
                      go_roundw
                      case rel => exact ⟨2, A3, k + 1, c3, by omega, by go_num, rfl, G, by omega⟩
                      case measure => simp [intOf]
                    · go_wp2_with fail
                      refine (l11Block_any _ _ _ _ ?_ ?_ ?_).mono ?_
                      · unfold I64; omega
                      · unfold I64; omega
                      · unfold I64; omega
                      rintro e w2 ⟨A2, n2, c2, rfl, ho2, hb2⟩
                      rw [blk_eq (a' := ((a + 2 * x * 2 : Nat) : Int)) (b' := ((y + 2 * x * 2 : Nat) : Int)) (c' := ((skoZ x a y + 2 * x * ((2 + 1) % 3) : Nat) : Int)) (by have := HN.out; omega) (by have := HN.out; omega) (by have := HN.out; have := HZ.out; omega)] at ho2
                      obtain ⟨vs, G⟩ := G.row ho2 hb2
                      have hlw := G.b.size
                      clear ho2 hb2
                      go_wp2_with (at_builtin; refine app_row _ rfl (.tmp 85) (.tmp 104) rfl w.heap.size A k c vs _ rfl G.o (A2, n2, c2) _ G.r G.ap _ rfl (by simp) (Nat.le_trans (Nat.succ_le_succ hk) (by omega)) hlw ?_; intro A3 c3 w3 ho3 hg3 hf3)
                      have G := G.done ho3 hg3
                      clear ho3 hg3 hf3 hlw
                      rw [List.append_assoc, ← skoD_step] at G
                      go_roundw
                      case rel => exact ⟨3, A3, k + 1, c3, by omega, by go_num, rfl, G, by omega⟩
                      case measure => simp [intOf]
                  · obtain rfl : i = 3 := by omega
                    rw [HY.out, List.append_assoc, ← skoE_step] at G
                    go_wp2
                    go_roundw
                    case rel => exact ⟨j + 1, A, k, c, by have := HY.out; omega, by rw [HY.out]; go_num, rfl, G, by omega⟩
                    case measure => have := HY.out; simp [intOf]; omega
            · have hjn : j = 2 * x - a - 1 := by have := HN.out; have := HY.out; omega
              rw [hjn, List.append_assoc, ← skoC_step] at G
              clear hjn
              go_wp2
              go_roundw
              case rel => exact ⟨a + 1, A, k, c, by omega, by go_num, rfl, G, by omega⟩
              case measure => simp [intOf]; omega
        · have han : a = 2 * x := by have := HN.out; omega
          rw [han] at G
          obtain ⟨ho, hb⟩ := G
          clear han
          go_wp2
          go_ret
          exact ⟨_, _, _, rfl, ho, hb⟩
end Go.Proofs.YtnmcmologlgccaaGreat
/- The source of choices among other memory: a state behind more calls; permutations that are drawn. No condition beyond those stated. -/
namespace Go.Proofs.YtnmcmologlgccaaGreat
open Go.RowKit

/-- a source's state, behind more calls: but for the source what was before is as it was -/
structure SrW (w w' : World) (g p : Nat) : Prop where
  src : Src w' g p
  gl : g < w.heap.size
  grown : w.grownBy w' (some g)
section
variable {w w' w'' : World} {g p q : Nat}
theorem SrW.start (h : Src w g p) : SrW w w g p := ⟨h, h.lt, World.grownBy.refl w _⟩
theorem SrW.size (h : SrW w w' g p) : w.heap.size ≤ w'.heap.size := h.grown.size
theorem SrW.next (h : SrW w w' g p) (hs : Src w'' g q) (hg : w'.grownBy w'' (some g)) : SrW w w'' g q := ⟨hs, h.gl, h.grown.trans hg⟩
theorem SrW.then_ (h : SrW w w' g p) (k : SrW w' w'' g q) : SrW w w'' g q := ⟨k.src, h.gl, h.grown.trans k.grown⟩
theorem SrW.step (h : SrW w w' g p) (hb : Below w'.heap.size w' w'') : SrW w w'' g p := ⟨h.src.below hb, h.gl, h.grown.trans (grownBy_of_below hb (some g))⟩
/-- memory is written that a call made itself -/
theorem SrW.far {r : Option Nat} (h : SrW w w' g p) (hg : w'.grownBy w'' r) (hr : ∀ b, r = some b → w.heap.size ≤ b) : SrW w w'' g p :=
  ⟨h.src.kept hg (fun b e => by have := hr b e; have := h.gl; omega), h.gl, ⟨hg.os.trans h.grown.os, hg.tape.trans h.grown.tape, hg.output.trans h.grown.output, Nat.le_trans h.grown.size hg.size, fun k hk hne => by
    rw [hg.block k (Nat.lt_of_lt_of_le hk h.grown.size) (fun e => by have := hr k e.symm; omega)]
    exact h.grown.block k hk hne⟩⟩
theorem OI.src {e : TypeId} {A : Option Addr} {n c : Nat} {zs : List Int} (h : OI w' w.heap.size e A n c zs) (hs : SrW w w' g p) (hg : w'.grownBy w'' (some g)) : OI w'' w.heap.size e A n c zs :=
  h.kept hg (by
    cases A with
    | none => exact .inl rfl
    | some a => exact .inr fun e => by have := (h.os.lt (k := a.block) rfl).1; have := hs.gl; simp only [blk, Option.map_some, Option.some.injEq] at e; omega)
end
/-- a call that draws a permutation -/
def RetDP (w : World) (g p n : Nat) (e : Ending) (w' : World) : Prop := ∃ A c zs q, e = .returned (.slice A n c) ∧ OI w' w.heap.size 2 A n c zs ∧ zs.length = n ∧ Perm zs ∧ SrW w w' g q ∧ q ≤ p + 2 * n
theorem perm_swap {n : Nat} {zs : List Int} (hl : zs.length = n) (hp : Perm zs) {i k : Nat} (hi : i < n) (hk : k < n) : ((zs.set i (nth zs k)).set k (nth zs i)).length = n ∧ Perm ((zs.set i (nth zs k)).set k (nth zs i)) := by
  have hlen : ((zs.set i (nth zs k)).set k (nth zs i)).length = n := by simp [hl]
  have hn : ∀ v, v < n → nth ((zs.set i (nth zs k)).set k (nth zs i)) v = nth zs (if v = k then i else if v = i then k else v) := fun v hv => by
    rw [nth_set (by simp [hl, hv]), nth_set (by rw [hl]; exact hv)]
    by_cases e1 : v = k
    · rw [if_pos e1, if_pos e1.symm]
    · rw [if_neg e1, if_neg (fun e => e1 e.symm)]
      by_cases e2 : v = i
      · rw [if_pos e2, if_pos e2.symm]
      · rw [if_neg e2, if_neg (fun e => e2 e.symm)]
  have hlt : ∀ v, v < n → (if v = k then i else if v = i then k else v) < n := fun v hv => by split; exact hi; split; exact hk; exact hv
  refine ⟨hlen, perm_of hlen (fun v hv => ?_) (fun u v hu hv e => ?_)⟩
  · rw [hn v hv]
    have := hp.bd _ (by rw [hl]; exact hlt v hv)
    rw [hl] at this
    exact this
  · rw [hn u hu, hn v hv] at e
    have := perm_inj hp (by rw [hl]; exact hlt u hu) (by rw [hl]; exact hlt v hv) e
    revert this
    split <;> split <;> (try split) <;> (try split) <;> omega
end Go.Proofs.YtnmcmologlgccaaGreat
/- Blocks that a law draws. No condition beyond those stated. -/
namespace Go.Proofs.YtnmcmologlgccaaGreat
open Go.RowKit

/-- a small set of points -/
def SmB (pts : Nat) (r : List Int) : Prop := 1 ≤ r.length ∧ r.length ≤ 4 ∧ ∀ x ∈ r, 0 ≤ x ∧ x < (pts : Int)
def SmBs (pts : Nat) (zss : List (List Int)) : Prop := ∀ r ∈ zss, SmB pts r
theorem SmBs.snoc {pts : Nat} {zss : List (List Int)} {r : List Int} (h : SmBs pts zss) (hr : SmB pts r) : SmBs pts (zss ++ [r]) := fun x hx => by
  rcases List.mem_append.1 hx with hx | hx
  · exact h x hx
  · rw [List.mem_singleton.1 hx]; exact hr
theorem putG_pos {l : List Int} {x : Int} : 1 ≤ (putG sgnI l x).length := by
  have : x ∈ putG sgnI l x := (putG_mem sgnI_ord l x x).2 (.inl rfl)
  exact List.length_pos_of_mem this
/-- rows that a call has made while it draws -/
structure DBs (w wr : World) (g q : Nat) (A : Option Addr) (k c : Nat) (zss : List (List Int)) : Prop where
  o : OR wr w.heap.size 36 2 A k c zss
  s : SrW w wr g q
section
variable {w wr w' : World} {g q q' : Nat} {A : Option Addr} {k c : Nat} {zss : List (List Int)}
theorem DBs.draw (h : DBs w wr g q A k c zss) (hs : Src w' g q') (hg : wr.grownBy w' (some g)) : DBs w w' g q' A k c zss := ⟨h.o.keptB hg h.s.gl, h.s.next hs hg⟩
theorem DBs.step (h : DBs w wr g q A k c zss) (hb : Below wr.heap.size wr w') : DBs w w' g q A k c zss := ⟨h.o.below hb, h.s.step hb⟩
end
/-- the same, the rows' headers said -/
structure DBv (w wr : World) (g q : Nat) (A : Option Addr) (k c : Nat) (vs : List Sl) (zss : List (List Int)) : Prop where
  o : ORv wr w.heap.size 36 2 A k c vs zss
  s : SrW w wr g q
section
variable {w wr w' : World} {g q q' : Nat} {A : Option Addr} {k c : Nat} {vs : List Sl} {zss : List (List Int)}
theorem DBs.v (h : DBs w wr g q A k c zss) : ∃ vs, DBv w wr g q A k c vs zss := by
  obtain ⟨⟨vs, ho⟩, s⟩ := h
  exact ⟨vs, ho, s⟩
theorem DBv.draw (h : DBv w wr g q A k c vs zss) (hs : Src w' g q') (hg : wr.grownBy w' (some g)) : DBv w w' g q' A k c vs zss := ⟨h.o.keptB hg h.s.gl, h.s.next hs hg⟩
theorem DBv.step (h : DBv w wr g q A k c vs zss) (hb : Below wr.heap.size wr w') : DBv w w' g q A k c vs zss := ⟨h.o.below hb, h.s.step hb⟩
/-- a row apart from all rows -/
def ApR (vs : List Sl) (Z : Option Addr) (zn zc : Nat) : Prop := ∀ (j : Nat) (u : Sl), vs[j]? = some u → apart u (Z, zn, zc)
theorem DBv.new (h : DBv w wr g q A k c vs zss) {Z : Option Addr} {zn zc : Nat} (hb : ∀ b, blk Z = some b → wr.heap.size ≤ b) : ApR vs Z zn zc := h.o.apart_new (v := (Z, zn, zc)) hb
theorem DBv.push (h : DBv w wr g q A k c vs zss) {A' : Option Addr} {k' c' : Nat} {vs' : List Sl} {zs' : List (List Int)} (ho : ORv w' w.heap.size 36 2 A' k' c' vs' zs') (hg : wr.grownBy w' (blk A)) : DBs w w' g q A' k' c' zs' :=
  ⟨⟨_, ho⟩, h.s.far hg (fun b hb => (h.o.os.lt hb).1)⟩
end
end Go.Proofs.YtnmcmologlgccaaGreat
/- A square of zeros, the program's own way. No condition beyond those stated. -/
namespace Go.Proofs.YtnmcmologlgccaaGreat
open Go.RowKit

def zersP (r c : Nat) : List (List Int) := List.replicate r (List.replicate c 0)
theorem zersP_step (r c : Nat) : zersP r c ++ [List.replicate c 0] = zersP (r + 1) c := by simp [zersP, List.replicate_succ']
theorem fresh_more {A A' : Option Addr} {g m : Nat} (h : ∀ b, blk A = some b → g ≤ b) (hn : blk A' = blk A ∨ ∃ k, blk A' = some k ∧ m ≤ k) (hm : g ≤ m) : ∀ b, blk A' = some b → g ≤ b := fun b hb => by
  rcases hn with e | ⟨k, e, hk⟩
  · exact h b (by rw [← e]; exact hb)
  · rw [e] at hb; injection hb with hb; omega
set_option maxHeartbeats 400000 in
theorem emptyCell_any (x y : Int) (w : World) : Calls Tryz.prog 112 #[.int .i64 x, .int .i64 y] w (fun e w' => e = .returned (.int .i64 0) ∧ w = w') := by
  go_enter Tryz.func112, Tryz.ntmps112
  go_wp2
  go_ret
  exact ⟨rfl, rfl⟩
set_option maxRecDepth 100000 in
set_option maxHeartbeats 2000000 in
theorem filledZero_any (n : Nat) (w : World) (hn : n ≤ 1024) :
    Calls Tryz.prog 111 #[.int .i64 n, .func (.func 112) #[] #[]] w (RetR w 36 2 (zersP n n)) := by
  have eg : ∀ (args : Array Value) (w : World), (callFunc 112 args).run Tryz.prog w = .ok (.enter 112 args) w := fun _ _ => by kernel_rfl
  have G0 : Grw w w none 0 0 [] := ⟨OR.nil_ _ _ (by decide), Below.refl _ _⟩
  go_enter Tryz.func111, Tryz.ntmps111
  go_wp2
  go_loopw [5, 6] (fun av xv wr => ∃ (x : Nat) (A : Option Addr) (c : Nat), x ≤ n ∧ xv = .int .i64 x ∧ av = .slice A x c ∧ Grw w wr A x c (zersP x n)) (fun _ xv _ => n - (intOf xv).toNat)
  case atStart => exact ⟨0, none, 0, Nat.zero_le _, rfl, rfl, G0⟩
  case round =>
    clear G0
    obtain ⟨x, A, c, hx, rfl, rfl, G⟩ := hrel
    by_cases hlt : x < n
    · obtain ⟨wo, rfl⟩ : ∃ wo : World, wo = wr := ⟨_, rfl⟩
      obtain ⟨⟨vs, hov⟩, hw⟩ := G
      have ho0 : OI wo w.heap.size 2 none 0 0 (List.replicate 0 0) := OI.nil_ _ _ _
      go_wp2
      go_loopw [7, 8] (fun rv yv wr => ∃ (y : Nat) (R : Option Addr) (rc : Nat), y ≤ n ∧ yv = .int .i64 y ∧ rv = .slice R y rc ∧ OI wr w.heap.size 2 R y rc (List.replicate y 0) ∧ (∀ b, blk R = some b → wo.heap.size ≤ b) ∧ Below wo.heap.size wo wr) (fun _ yv _ => n - (intOf yv).toNat)
      case atStart => exact ⟨0, none, 0, Nat.zero_le _, rfl, rfl, ho0, fun b hb => by simp [blk] at hb, Below.refl _ _⟩
      case round =>
        clear ho0
        obtain ⟨y, R, rc, hy, rfl, rfl, ho, hfr, hb⟩ := hrel
        have hsz := Nat.le_trans hw.size hb.size
        by_cases hly : y < n
        · have hcl := emptyCell_any (x : Int) (y : Int) wr
          have hby : y ≤ 1024 := by omega
          go_wp2_with (first
            | (go_at_call 112; refine hcl.mono ?_; rintro e w' ⟨rfl, rfl⟩)
            | (at_builtin; refine app_int _ rfl (.tmp 19) (.tmp 24) rfl w.heap.size R y rc _ rfl ho 0 wr.heap.size rfl rfl ⟨by omega, by omega⟩ (Nat.le_trans (Nat.succ_le_succ hby) (by omega)) hsz ?_; intro A4 c4 w4 ho4 hg4 hf4))
          have hb4 : Below wo.heap.size wo w4 := below_own hb hg4 hb.size hfr
          have hfr4 : ∀ b, blk A4 = some b → wo.heap.size ≤ b := fresh_more hfr hf4 hb.size
          rw [← List.replicate_succ'] at ho4
          clear ho hfr hb hg4 hf4
          go_roundw
          case rel => exact ⟨y + 1, A4, c4, by omega, by go_num, rfl, ho4, hfr4, hb4⟩
          case measure => simp [intOf]; omega
        · obtain rfl : y = n := by omega
          have hap := hov.apart_new (v := (R, y, rc)) hfr
          have hov1 := hov.below hb
          have hw1 := hw.trans (hb.mono hw.size)
          have hbx : x ≤ 1024 := by omega
          clear hfr hb
          go_wp2_with (at_builtin; refine app_row _ rfl (.tmp 26) (.tmp 28) rfl w.heap.size A x c vs _ rfl hov1 (R, y, rc) _ ho hap _ rfl (by simp) (Nat.le_trans (Nat.succ_le_succ hbx) (by omega)) hsz ?_; intro A3 c3 w3 ho3 hg3 hf3)
          have hw3 := below_own hw1 hg3 hw1.size (fun b hb => (hov1.os.lt hb).1)
          rw [zersP_step] at ho3
          clear ho hap hov1 hg3 hf3
          go_roundw
          case rel => exact ⟨x + 1, A3, c3, by omega, by go_num, rfl, ⟨⟨_, ho3⟩, hw3⟩⟩
          case measure => simp [intOf]; omega
    · obtain rfl : x = n := by omega
      obtain ⟨ho, hw⟩ := G
      go_wp2
      go_ret
      exact ⟨_, _, _, rfl, ho, hw⟩
set_option maxHeartbeats 400000 in
theorem emptySquare_any (n : Nat) (w : World) (hn : n ≤ 1024) :
    Calls Tryz.prog 67 #[.int .i64 n] w (RetR w 36 2 (zersP n n)) := by
  go_enter Tryz.func67, Tryz.ntmps67
  go_wp2_with fail
  refine (filledZero_any n w hn).mono ?_
  rintro e w1 ⟨A, m, c, rfl, ho, hb⟩
  go_wp2
  go_ret
  exact ⟨_, _, _, rfl, ho, hb⟩
end Go.Proofs.YtnmcmologlgccaaGreat
