/- Triple systems by Skolem's construction, the reference's side. No condition beyond those stated. -/
import Derived.Test.YtnmcmologlgccaaGreatSZBD
set_option linter.unusedVariables false
set_option linter.unusedSimpArgs false
namespace Go.Proofs.YtnmcmologlgccaaGreat
open Go.RowKit
def blkP (a b c : Int) : List Int := putG sgnI (putG sgnI [a] b) c
theorem blk_eq {a b c a' b' c' : Int} (h1 : a = a') (h2 : b = b') (h3 : c = c') : blkP a b c = blkP a' b' c' := by rw [h1, h2, h3]
set_option maxHeartbeats 800000 in
theorem l11Block_any (a b c : Int) (w : World) (ha : I64 a) (hb : I64 b) (hc : I64 c) :
    Calls Tryz.prog 192 #[.int .i64 a, .int .i64 b, .int .i64 c] w (RetI w 2 (blkP a b c)) := by
  have ho := OI.lit w w.heap.size 2 [a] (Nat.le_refl _) (by simp) (All64.one ha)
  have hb0 := below_alloc w (.cells (ints [a]).toArray 2)
  have h1 := l00Put_any _ 1 1 [a] b _ ho.reads (by omega) hb
  clear ho
  go_enter Tryz.func192, Tryz.ntmps192
  go_wp2_with fail
  refine h1.mono ?_
  rintro e w1 ⟨A1, n1, c1, rfl, ho1, hb1⟩
  have hl := ho1.len
  have hlen : n1 ≤ 2 := by
    rw [← hl]
    have := putG_len (c := sgnI) [a] b
    simpa using this
  have h2 := l00Put_any A1 n1 c1 _ c w1 ho1.reads (by omega) hc
  have hb2 := hb0.trans (hb1.mono hb0.size)
  clear h1 hb1 ho1 hl hlen
  go_wp2_with fail
  refine h2.mono ?_
  rintro e w2 ⟨A2, n2, c2, rfl, ho2, hb3⟩
  have ho3 := ho2.more hb2.size
  have hb4 := hb2.trans (hb3.mono hb2.size)
  clear h2 hb3 ho2
  go_wp2
  go_ret
  exact ⟨_, _, _, rfl, ho3, hb4⟩
def skoB (t x i : Nat) : List (List Int) := (List.range i).map fun i => blkP ((3 * (2 * t) : Nat) : Int) ((x + t + 2 * t * i : Nat) : Int) ((x + 2 * t * ((i + 1) % 3) : Nat) : Int)
def skoA (t x : Nat) : List (List Int) := (List.range x).flatMap fun (x : Nat) => blkP (x : Int) ((x + 2 * t : Nat) : Int) ((x + 2 * (2 * t) : Nat) : Int) :: skoB t x 3
def skoZ (t x y : Nat) : Nat := (x + y) % (2 * t) / 2 + if (x + y) % (2 * t) % 2 = 1 then t else 0
def skoD (t x y i : Nat) : List (List Int) := (List.range i).map fun i => blkP ((x + 2 * t * i : Nat) : Int) ((y + 2 * t * i : Nat) : Int) ((skoZ t x y + 2 * t * ((i + 1) % 3) : Nat) : Int)
def skoE (t x j : Nat) : List (List Int) := (List.range j).flatMap fun d => skoD t x (x + 1 + d) 3
def skoCT (t x : Nat) : List (List Int) := (List.range x).flatMap fun x => skoE t x (2 * t - x - 1)
def skoP (t : Nat) : List (List Int) := skoA t t ++ skoCT t (2 * t)
theorem skoB_step (t x i : Nat) : skoB t x (i + 1) = skoB t x i ++ [blkP ((3 * (2 * t) : Nat) : Int) ((x + t + 2 * t * i : Nat) : Int) ((x + 2 * t * ((i + 1) % 3) : Nat) : Int)] := by simp [skoB, List.range_succ]
theorem skoA_step (t x : Nat) : skoA t (x + 1) = skoA t x ++ [blkP (x : Int) ((x + 2 * t : Nat) : Int) ((x + 2 * (2 * t) : Nat) : Int)] ++ skoB t x 3 := by simp [skoA, List.range_succ, List.flatMap_append]
theorem skoD_step (t x y i : Nat) : skoD t x y (i + 1) = skoD t x y i ++ [blkP ((x + 2 * t * i : Nat) : Int) ((y + 2 * t * i : Nat) : Int) ((skoZ t x y + 2 * t * ((i + 1) % 3) : Nat) : Int)] := by simp [skoD, List.range_succ]
theorem skoE_step (t x j : Nat) : skoE t x (j + 1) = skoE t x j ++ skoD t x (x + 1 + j) 3 := by simp [skoE, List.range_succ, List.flatMap_append]
theorem skoC_step (t x : Nat) : skoCT t (x + 1) = skoCT t x ++ skoE t x (2 * t - x - 1) := by simp [skoCT, List.range_succ, List.flatMap_append]
def Grw (w wr : World) (A : Option Addr) (k c : Nat) (zss : List (List Int)) : Prop := OR wr w.heap.size 36 2 A k c zss ∧ Below w.heap.size w wr
theorem Grw.start (w w1 : World) (hb : Below w.heap.size w w1) : Grw w (w1.alloc (.cells #[] 36)) (some ⟨w1.heap.size, 0, none⟩) 0 0 [] :=
  ⟨OR.of_own (OS.lit w1 w.heap.size 36 1 0 #[] hb.size rfl (by omega)) (by decide), hb.trans ((below_alloc _ _).mono hb.size)⟩
structure GrwR (w w2 : World) (A : Option Addr) (k c : Nat) (vs : List Sl) (zss : List (List Int)) (A2 : Option Addr) (n2 c2 : Nat) (r : List Int) : Prop where
  o : ORv w2 w.heap.size 36 2 A k c vs zss
  r : OI w2 w.heap.size 2 A2 n2 c2 r
  ap : ∀ (j : Nat) (u : Sl), vs[j]? = some u → apart u (A2, n2, c2)
  b : Below w.heap.size w w2
theorem Grw.row {w wr w2 : World} {A : Option Addr} {k c : Nat} {zss : List (List Int)} (h : Grw w wr A k c zss) {A2 : Option Addr} {n2 c2 : Nat} {r : List Int} (ho : OI w2 wr.heap.size 2 A2 n2 c2 r) (hb : Below wr.heap.size wr w2) : ∃ vs, GrwR w w2 A k c vs zss A2 n2 c2 r := by
  obtain ⟨⟨vs, hv⟩, hw⟩ := h
  exact ⟨vs, hv.below hb, ho.more hw.size, hv.apart_new (v := (A2, n2, c2)) (fun b hb => (ho.os.lt hb).1), hw.trans (hb.mono hw.size)⟩
theorem GrwR.done {w w2 w' : World} {A : Option Addr} {k c : Nat} {vs : List Sl} {zss : List (List Int)} {A2 : Option Addr} {n2 c2 : Nat} {r : List Int} (h : GrwR w w2 A k c vs zss A2 n2 c2 r) {A' : Option Addr} {k' c' : Nat} {vs' : List Sl} {zs' : List (List Int)} (ho : ORv w' w.heap.size 36 2 A' k' c' vs' zs') (hg : w2.grownBy w' (blk A)) : Grw w w' A' k' c' zs' :=
  ⟨⟨_, ho⟩, below_own h.b hg h.b.size (fun b hb => (h.o.os.lt hb).1)⟩
set_option maxRecDepth 100000 in
set_option maxHeartbeats 1000000 in
theorem l11Skolem_any (t : Nat) (w : World) (ht : t ≤ 5) :
    Calls Tryz.prog 162 #[.int .i64 t] w (RetR w 36 2 (skoP t)) := by
  have G0 := Grw.start w w (Below.refl _ _)
  obtain ⟨n, hn⟩ : ∃ n : Nat, n = 2 * t := ⟨_, rfl⟩
  have hnt : 2 * (t : Int) = (n : Int) := by omega
  have hn10 : n ≤ 10 := by omega
  have HN := Lib.hid hn
  clear hn
  go_enter Tryz.func162, Tryz.ntmps162
  go_wp2
  clear hnt
  go_loopw [4, 5] (fun ov xv wr => ∃ (x : Nat) (A : Option Addr) (k c : Nat), x ≤ t ∧ xv = .int .i64 x ∧ ov = .slice A k c ∧ Grw w wr A k c (skoA t x) ∧ k ≤ 4 * x) (fun _ xv _ => t - (intOf xv).toNat)
  case atStart => exact ⟨0, _, 0, 0, Nat.zero_le _, rfl, rfl, by simpa [skoA] using G0, by omega⟩
  case round =>
    clear G0
    obtain ⟨x, A, k, c, hx, rfl, rfl, G, hk⟩ := hrel
    by_cases hlt : x < t
    · go_wp2_with fail
      refine (l11Block_any _ _ _ _ ?_ ?_ ?_).mono ?_
      · unfold I64; omega
      · unfold I64; omega
      · unfold I64; omega
      rintro e w2 ⟨A2, n2, c2, rfl, ho2, hb2⟩
      rw [blk_eq (a' := ((x : Nat) : Int)) (b' := ((x + 2 * t : Nat) : Int)) (c' := ((x + 2 * (2 * t) : Nat) : Int)) (by have := HN.out; omega) (by have := HN.out; omega) (by have := HN.out; omega)] at ho2
      obtain ⟨vs, G⟩ := G.row ho2 hb2
      have hlw := G.b.size
      clear ho2 hb2
      go_wp2_with (at_builtin; refine app_row _ rfl (.tmp 20) (.tmp 30) rfl w.heap.size A k c vs _ rfl G.o (A2, n2, c2) _ G.r G.ap _ rfl (by simp) (Nat.le_trans (Nat.succ_le_succ hk) (by omega)) hlw ?_; intro A3 c3 w3 ho3 hg3 hf3)
      have G := G.done ho3 hg3
      clear ho3 hg3 hf3 hlw
      go_loopw [4, 6] (fun ov iv wr => ∃ (i : Nat) (A : Option Addr) (k c : Nat), i ≤ 3 ∧ iv = .int .i64 i ∧ ov = .slice A k c ∧ Grw w wr A k c (skoA t x ++ [blkP (x : Int) ((x + 2 * t : Nat) : Int) ((x + 2 * (2 * t) : Nat) : Int)] ++ skoB t x i) ∧ k ≤ 4 * x + 1 + i) (fun _ iv _ => 3 - (intOf iv).toNat)
      case atStart => exact ⟨0, A3, k + 1, c3, Nat.zero_le _, rfl, rfl, by simpa [skoB] using G, by omega⟩
      case round =>
        clear G hk
        obtain ⟨i, A, k, c, hi, rfl, rfl, G, hk⟩ := hrel
        by_cases hli : i < 3
        · have h3 : i = 0 ∨ i = 1 ∨ i = 2 := by omega
          clear hli
          rcases h3 with rfl | rfl | rfl
          · go_wp2_with fail
            refine (l11Block_any _ _ _ _ ?_ ?_ ?_).mono ?_
            · unfold I64; omega
            · unfold I64; omega
            · unfold I64; omega
            rintro e w2 ⟨A2, n2, c2, rfl, ho2, hb2⟩
            rw [blk_eq (a' := ((3 * (2 * t) : Nat) : Int)) (b' := ((x + t + 2 * t * 0 : Nat) : Int)) (c' := ((x + 2 * t * ((0 + 1) % 3) : Nat) : Int)) (by have := HN.out; omega) (by have := HN.out; omega) (by have := HN.out; omega)] at ho2
            obtain ⟨vs, G⟩ := G.row ho2 hb2
            have hlw := G.b.size
            clear ho2 hb2
            go_wp2_with (at_builtin; refine app_row _ rfl (.tmp 36) (.tmp 54) rfl w.heap.size A k c vs _ rfl G.o (A2, n2, c2) _ G.r G.ap _ rfl (by simp) (Nat.le_trans (Nat.succ_le_succ hk) (by omega)) hlw ?_; intro A3 c3 w3 ho3 hg3 hf3)
            have G := G.done ho3 hg3
            clear ho3 hg3 hf3 hlw
            rw [List.append_assoc, ← skoB_step] at G
            go_roundw
            case rel => exact ⟨1, A3, k + 1, c3, by omega, by go_num, rfl, G, by omega⟩
            case measure => simp [intOf]
          · go_wp2_with fail
            refine (l11Block_any _ _ _ _ ?_ ?_ ?_).mono ?_
            · unfold I64; omega
            · unfold I64; omega
            · unfold I64; omega
            rintro e w2 ⟨A2, n2, c2, rfl, ho2, hb2⟩
            rw [blk_eq (a' := ((3 * (2 * t) : Nat) : Int)) (b' := ((x + t + 2 * t * 1 : Nat) : Int)) (c' := ((x + 2 * t * ((1 + 1) % 3) : Nat) : Int)) (by have := HN.out; omega) (by have := HN.out; omega) (by have := HN.out; omega)] at ho2
            obtain ⟨vs, G⟩ := G.row ho2 hb2
            have hlw := G.b.size
            clear ho2 hb2
            go_wp2_with (at_builtin; refine app_row _ rfl (.tmp 36) (.tmp 54) rfl w.heap.size A k c vs _ rfl G.o (A2, n2, c2) _ G.r G.ap _ rfl (by simp) (Nat.le_trans (Nat.succ_le_succ hk) (by omega)) hlw ?_; intro A3 c3 w3 ho3 hg3 hf3)
            have G := G.done ho3 hg3
            clear ho3 hg3 hf3 hlw
            rw [List.append_assoc, ← skoB_step] at G
            go_roundw
            case rel => exact ⟨2, A3, k + 1, c3, by omega, by go_num, rfl, G, by omega⟩
            case measure => simp [intOf]
          · go_wp2_with fail
            refine (l11Block_any _ _ _ _ ?_ ?_ ?_).mono ?_
            · unfold I64; omega
            · unfold I64; omega
            · unfold I64; omega
            rintro e w2 ⟨A2, n2, c2, rfl, ho2, hb2⟩
            rw [blk_eq (a' := ((3 * (2 * t) : Nat) : Int)) (b' := ((x + t + 2 * t * 2 : Nat) : Int)) (c' := ((x + 2 * t * ((2 + 1) % 3) : Nat) : Int)) (by have := HN.out; omega) (by have := HN.out; omega) (by have := HN.out; omega)] at ho2
            obtain ⟨vs, G⟩ := G.row ho2 hb2
            have hlw := G.b.size
            clear ho2 hb2
            go_wp2_with (at_builtin; refine app_row _ rfl (.tmp 36) (.tmp 54) rfl w.heap.size A k c vs _ rfl G.o (A2, n2, c2) _ G.r G.ap _ rfl (by simp) (Nat.le_trans (Nat.succ_le_succ hk) (by omega)) hlw ?_; intro A3 c3 w3 ho3 hg3 hf3)
            have G := G.done ho3 hg3
            clear ho3 hg3 hf3 hlw
            rw [List.append_assoc, ← skoB_step] at G
            go_roundw
            case rel => exact ⟨3, A3, k + 1, c3, by omega, by go_num, rfl, G, by omega⟩
            case measure => simp [intOf]
        · obtain rfl : i = 3 := by omega
          rw [← skoA_step] at G
          go_wp2
          go_roundw
          case rel => exact ⟨x + 1, A, k, c, by omega, by go_num, rfl, G, by omega⟩
          case measure => simp [intOf]; omega
    · obtain rfl : x = t := by omega
      go_wp2
      go_loopw [4, 7] (fun ov xv wr => ∃ (a : Nat) (A : Option Addr) (k c : Nat), a ≤ n ∧ xv = .int .i64 a ∧ ov = .slice A k c ∧ Grw w wr A k c (skoA x x ++ skoCT x a) ∧ k ≤ 20 + 30 * a) (fun _ xv _ => n - (intOf xv).toNat)
      case atStart => exact ⟨0, A, k, c, Nat.zero_le _, rfl, rfl, by simpa [skoCT] using G, by omega⟩
      case round =>
        clear G hk
        obtain ⟨a, A, k, c, ha, rfl, rfl, G, hk⟩ := hrel
        by_cases hla : a < n
        · go_wp2
          go_loopw [4, 8] (fun ov yv wr => ∃ (j : Nat) (A : Option Addr) (k c : Nat), a + 1 + j ≤ n ∧ yv = .int .i64 ((a + 1 + j : Nat) : Int) ∧ ov = .slice A k c ∧ Grw w wr A k c (skoA x x ++ skoCT x a ++ skoE x a j) ∧ k ≤ 20 + 30 * a + 3 * j) (fun _ yv _ => n - (intOf yv).toNat)
          case atStart => exact ⟨0, A, k, c, by omega, by go_num, rfl, by simpa [skoE] using G, by omega⟩
          case round =>
            clear G hk
            obtain ⟨j, A, k, c, hj, rfl, rfl, G, hk⟩ := hrel
            obtain ⟨y, hy⟩ : ∃ y, y = a + 1 + j := ⟨_, rfl⟩
            have HY := Lib.hid hy
            rw [← hy] at hj ⊢
            have hj9 : j ≤ 9 := by omega
            clear hy
            by_cases hly : y < n
            · have hn0 : ¬ n = 0 := by omega
              have q1 : ((a : Int) + (y : Int)).tmod (n : Int) = (((a + y) % n : Nat) : Int) := by rw [Int.tmod_eq_emod_of_nonneg (by omega), Int.natCast_emod, Int.natCast_add]
              have HS : Hid (skoZ x a y = (a + y) % n / 2 + if (a + y) % n % 2 = 1 then x else 0) := Lib.hid (by rw [HN.out]; rfl)
              have hsl : (a + y) % n < n := Nat.mod_lt _ (by omega)
              generalize (a + y) % n = s at *
              have q2 : (s : Int).tdiv 2 = ((s / 2 : Nat) : Int) := by rw [Int.tdiv_eq_ediv_of_nonneg (by omega)]; omega
              by_cases hs2 : s % 2 = 1
              · have q3 : (s : Int).tmod 2 = 1 := by rw [Int.tmod_eq_emod_of_nonneg (by omega)]; omega
                have HZ : Hid (skoZ x a y = s / 2 + x) := Lib.hid (by rw [HS.out, if_pos hs2])
                clear HS hs2
                go_wp2
                go_loopw [4, 11] (fun ov iv wr => ∃ (i : Nat) (A : Option Addr) (k c : Nat), i ≤ 3 ∧ iv = .int .i64 i ∧ ov = .slice A k c ∧ Grw w wr A k c (skoA x x ++ skoCT x a ++ skoE x a j ++ skoD x a y i) ∧ k ≤ 20 + 30 * a + 3 * j + i) (fun _ iv _ => 3 - (intOf iv).toNat)
                case atStart => exact ⟨0, A, k, c, Nat.zero_le _, rfl, rfl, by simpa [skoD] using G, by omega⟩
                case round =>
                  clear G hk q1 q2 q3 hn0
                  obtain ⟨i, A, k, c, hi, rfl, rfl, G, hk⟩ := hrel
                  by_cases hli : i < 3
                  · have h3 : i = 0 ∨ i = 1 ∨ i = 2 := by omega
                    clear hli
                    rcases h3 with rfl | rfl | rfl
                    · go_wp2_with fail
                      refine (l11Block_any _ _ _ _ ?_ ?_ ?_).mono ?_
                      · unfold I64; omega
                      · unfold I64; omega
                      · unfold I64; omega
                      rintro e w2 ⟨A2, n2, c2, rfl, ho2, hb2⟩
                      rw [blk_eq (a' := ((a + 2 * x * 0 : Nat) : Int)) (b' := ((y + 2 * x * 0 : Nat) : Int)) (c' := ((skoZ x a y + 2 * x * ((0 + 1) % 3) : Nat) : Int)) (by have := HN.out; omega) (by have := HN.out; omega) (by have := HN.out; have := HZ.out; omega)] at ho2
                      obtain ⟨vs, G⟩ := G.row ho2 hb2
                      have hlw := G.b.size
                      clear ho2 hb2
                      go_wp2_with (at_builtin; refine app_row _ rfl (.tmp 85) (.tmp 104) rfl w.heap.size A k c vs _ rfl G.o (A2, n2, c2) _ G.r G.ap _ rfl (by simp) (Nat.le_trans (Nat.succ_le_succ hk) (by omega)) hlw ?_; intro A3 c3 w3 ho3 hg3 hf3)
                      have G := G.done ho3 hg3
                      clear ho3 hg3 hf3 hlw
                      rw [List.append_assoc, ← skoD_step] at G
                      go_roundw
                      case rel => exact ⟨1, A3, k + 1, c3, by omega, by go_num, rfl, G, by omega⟩
                      case measure => simp [intOf]
                    · go_wp2_with fail
                      refine (l11Block_any _ _ _ _ ?_ ?_ ?_).mono ?_
                      · unfold I64; omega
                      · unfold I64; omega
                      · unfold I64; omega
                      rintro e w2 ⟨A2, n2, c2, rfl, ho2, hb2⟩
                      rw [blk_eq (a' := ((a + 2 * x * 1 : Nat) : Int)) (b' := ((y + 2 * x * 1 : Nat) : Int)) (c' := ((skoZ x a y + 2 * x * ((1 + 1) % 3) : Nat) : Int)) (by have := HN.out; omega) (by have := HN.out; omega) (by have := HN.out; have := HZ.out; omega)] at ho2
                      obtain ⟨vs, G⟩ := G.row ho2 hb2
                      have hlw := G.b.size
                      clear ho2 hb2
                      go_wp2_with (at_builtin; refine app_row _ rfl (.tmp 85) (.tmp 104) rfl w.heap.size A k c vs _ rfl G.o (A2, n2, c2) _ G.r G.ap _ rfl (by simp) (Nat.le_trans (Nat.succ_le_succ hk) (by omega)) hlw ?_; intro A3 c3 w3 ho3 hg3 hf3)
                      have G := G.done ho3 hg3
                      clear ho3 hg3 hf3 hlw
                      rw [List.append_assoc, ← skoD_step] at G
                      go_roundw
                      case rel => exact ⟨2, A3, k + 1, c3, by omega, by go_num, rfl, G, by omega⟩
                      case measure => simp [intOf]
                    · go_wp2_with fail
                      refine (l11Block_any _ _ _ _ ?_ ?_ ?_).mono ?_
                      · unfold I64; omega
                      · unfold I64; omega
                      · unfold I64; omega
                      rintro e w2 ⟨A2, n2, c2, rfl, ho2, hb2⟩
                      rw [blk_eq (a' := ((a + 2 * x * 2 : Nat) : Int)) (b' := ((y + 2 * x * 2 : Nat) : Int)) (c' := ((skoZ x a y + 2 * x * ((2 + 1) % 3) : Nat) : Int)) (by have := HN.out; omega) (by have := HN.out; omega) (by have := HN.out; have := HZ.out; omega)] at ho2
                      obtain ⟨vs, G⟩ := G.row ho2 hb2
                      have hlw := G.b.size
                      clear ho2 hb2
                      go_wp2_with (at_builtin; refine app_row _ rfl (.tmp 85) (.tmp 104) rfl w.heap.size A k c vs _ rfl G.o (A2, n2, c2) _ G.r G.ap _ rfl (by simp) (Nat.le_trans (Nat.succ_le_succ hk) (by omega)) hlw ?_; intro A3 c3 w3 ho3 hg3 hf3)
                      have G := G.done ho3 hg3
                      clear ho3 hg3 hf3 hlw
                      rw [List.append_assoc, ← skoD_step] at G
                      go_roundw
                      case rel => exact ⟨3, A3, k + 1, c3, by omega, by go_num, rfl, G, by omega⟩
                      case measure => simp [intOf]
                  · obtain rfl : i = 3 := by omega
                    rw [HY.out, List.append_assoc, ← skoE_step] at G
                    go_wp2
                    go_roundw
                    case rel => exact ⟨j + 1, A, k, c, by have := HY.out; omega, by rw [HY.out]; go_num, rfl, G, by omega⟩
                    case measure => have := HY.out; simp [intOf]; omega
              · have q3 : (s : Int).tmod 2 = 0 := by rw [Int.tmod_eq_emod_of_nonneg (by omega)]; omega
                have HZ : Hid (skoZ x a y = s / 2) := Lib.hid (by rw [HS.out, if_neg hs2, Nat.add_zero])
                clear HS hs2
                go_wp2
                go_loopw [4, 11] (fun ov iv wr => ∃ (i : Nat) (A : Option Addr) (k c : Nat), i ≤ 3 ∧ iv = .int .i64 i ∧ ov = .slice A k c ∧ Grw w wr A k c (skoA x x ++ skoCT x a ++ skoE x a j ++ skoD x a y i) ∧ k ≤ 20 + 30 * a + 3 * j + i) (fun _ iv _ => 3 - (intOf iv).toNat)
                case atStart => exact ⟨0, A, k, c, Nat.zero_le _, rfl, rfl, by simpa [skoD] using G, by omega⟩
                case round =>
                  clear G hk q1 q2 q3 hn0
                  obtain ⟨i, A, k, c, hi, rfl, rfl, G, hk⟩ := hrel
                  by_cases hli : i < 3
                  · have h3 : i = 0 ∨ i = 1 ∨ i = 2 := by omega
                    clear hli
                    rcases h3 with rfl | rfl | rfl
                    · go_wp2_with fail
                      refine (l11Block_any _ _ _ _ ?_ ?_ ?_).mono ?_
                      · unfold I64; omega
                      · unfold I64; omega
                      · unfold I64; omega
                      rintro e w2 ⟨A2, n2, c2, rfl, ho2, hb2⟩
                      rw [blk_eq (a' := ((a + 2 * x * 0 : Nat) : Int)) (b' := ((y + 2 * x * 0 : Nat) : Int)) (c' := ((skoZ x a y + 2 * x * ((0 + 1) % 3) : Nat) : Int)) (by have := HN.out; omega) (by have := HN.out; omega) (by have := HN.out; have := HZ.out; omega)] at ho2
                      obtain ⟨vs, G⟩ := G.row ho2 hb2
                      have hlw := G.b.size
                      clear ho2 hb2
                      go_wp2_with (at_builtin; refine app_row _ rfl (.tmp 85) (.tmp 104) rfl w.heap.size A k c vs _ rfl G.o (A2, n2, c2) _ G.r G.ap _ rfl (by simp) (Nat.le_trans (Nat.succ_le_succ hk) (by omega)) hlw ?_; intro A3 c3 w3 ho3 hg3 hf3)
                      have G := G.done ho3 hg3
                      clear ho3 hg3 hf3 hlw
                      rw [List.append_assoc, ← skoD_step] at G
                      go_roundw
                      case rel => exact ⟨1, A3, k + 1, c3, by omega, by go_num, rfl, G, by omega⟩
                      case measure => simp [intOf]
                    · go_wp2_with fail
                      refine (l11Block_any _ _ _ _ ?_ ?_ ?_).mono ?_
                      · unfold I64; omega
                      · unfold I64; omega
                      · unfold I64; omega
                      rintro e w2 ⟨A2, n2, c2, rfl, ho2, hb2⟩
                      rw [blk_eq (a' := ((a + 2 * x * 1 : Nat) : Int)) (b' := ((y + 2 * x * 1 : Nat) : Int)) (c' := ((skoZ x a y + 2 * x * ((1 + 1) % 3) : Nat) : Int)) (by have := HN.out; omega) (by have := HN.out; omega) (by have := HN.out; have := HZ.out; omega)] at ho2
                      obtain ⟨vs, G⟩ := G.row ho2 hb2
                      have hlw := G.b.size
                      clear ho2 hb2
                      go_wp2_with (at_builtin; refine app_row _ rfl (.tmp 85) (.tmp 104) rfl w.heap.size A k c vs _ rfl G.o (A2, n2, c2) _ G.r G.ap _ rfl (by simp) (Nat.le_trans (Nat.succ_le_succ hk) (by omega)) hlw ?_; intro A3 c3 w3 ho3 hg3 hf3)
                      have G := G.done ho3 hg3
                      clear ho3 hg3 hf3 hlw
                      rw [List.append_assoc, ← skoD_step] at G
                      go_roundw
                      case rel => exact ⟨2, A3, k + 1, c3, by omega, by go_num, rfl, G, by omega⟩
                      case measure => simp [intOf]
                    · go_wp2_with fail
                      refine (l11Block_any _ _ _ _ ?_ ?_ ?_).mono ?_
                      · unfold I64; omega
                      · unfold I64; omega
                      · unfold I64; omega
                      rintro e w2 ⟨A2, n2, c2, rfl, ho2, hb2⟩
                      rw [blk_eq (a' := ((a + 2 * x * 2 : Nat) : Int)) (b' := ((y + 2 * x * 2 : Nat) : Int)) (c' := ((skoZ x a y + 2 * x * ((2 + 1) % 3) : Nat) : Int)) (by have := HN.out; omega) (by have := HN.out; omega) (by have := HN.out; have := HZ.out; omega)] at ho2
                      obtain ⟨vs, G⟩ := G.row ho2 hb2
                      have hlw := G.b.size
                      clear ho2 hb2
                      go_wp2_with (at_builtin; refine app_row _ rfl (.tmp 85) (.tmp 104) rfl w.heap.size A k c vs _ rfl G.o (A2, n2, c2) _ G.r G.ap _ rfl (by simp) (Nat.le_trans (Nat.succ_le_succ hk) (by omega)) hlw ?_; intro A3 c3 w3 ho3 hg3 hf3)
                      have G := G.done ho3 hg3
                      clear ho3 hg3 hf3 hlw
                      rw [List.append_assoc, ← skoD_step] at G
                      go_roundw
                      case rel => exact ⟨3, A3, k + 1, c3, by omega, by go_num, rfl, G, by omega⟩
                      case measure => simp [intOf]
                  · obtain rfl : i = 3 := by omega
                    rw [HY.out, List.append_assoc, ← skoE_step] at G
                    go_wp2
                    go_roundw
                    case rel => exact ⟨j + 1, A, k, c, by have := HY.out; omega, by rw [HY.out]; go_num, rfl, G, by omega⟩
                    case measure => have := HY.out; simp [intOf]; omega
            · have hjn : j = 2 * x - a - 1 := by have := HN.out; have := HY.out; omega
              rw [hjn, List.append_assoc, ← skoC_step] at G
              clear hjn
              go_wp2
              go_roundw
              case rel => exact ⟨a + 1, A, k, c, by omega, by go_num, rfl, G, by omega⟩
              case measure => simp [intOf]; omega
        · have han : a = 2 * x := by have := HN.out; omega
          rw [han] at G
          obtain ⟨ho, hb⟩ := G
          clear han
          go_wp2
          go_ret
          exact ⟨_, _, _, rfl, ho, hb⟩
/-! complete designs -/
def subL (v k : Nat) : List (List Int) := (List.range (chP v k)).map fun r => subP v k r
def comS (v k : Nat) : Bool := decide (v < 3) || decide (k < 2) || decide (v ≤ k) || decide (128 < chP v k) || (match alF v k 200 (iotaP k) with | some L => decide (isortR L = subL v k) | none => false)
set_option maxRecDepth 100000 in
theorem comS_1 : (((List.range 13).drop 0).all fun v => (List.range 33).all fun k => comS v k) = true := by decide +kernel
set_option maxRecDepth 100000 in
theorem comS_2 : (((List.range 17).drop 13).all fun v => (List.range 33).all fun k => comS v k) = true := by decide +kernel
set_option maxRecDepth 100000 in
theorem comS_3 : (((List.range 33).drop 17).all fun v => (List.range 33).all fun k => comS v k) = true := by decide +kernel
theorem comS_at {v k : Nat} {L : List (List Int)} (h3 : 3 ≤ v) (hv : v ≤ 32) (h2 : 2 ≤ k) (hk : k < v) (h : chP v k ≤ 128) (hL : alF v k 200 (iotaP k) = some L) : srtR L = subL v k := by
  have e1 : decide (v < 3) = false := by simp; omega
  have e2 : decide (k < 2) = false := by simp; omega
  have e3 : decide (v ≤ k) = false := by simp; omega
  have e4 : decide (128 < chP v k) = false := by simp; omega
  have hm : ∀ {a b : Nat}, a ≤ v → v < b → v ∈ (List.range b).drop a := fun {a b} h1 h2 => by
    rw [List.mem_iff_getElem]
    exact ⟨v - a, by simp; omega, by simp; omega⟩
  have key : comS v k = true := by
    have hv4 : v < 13 ∨ (13 ≤ v ∧ v < 17) ∨ (17 ≤ v ∧ v < 33) := by omega
    rcases hv4 with h4 | h4 | h4
    · exact List.all_eq_true.1 (List.all_eq_true.1 comS_1 v (hm (Nat.zero_le _) h4)) k (List.mem_range.2 (by omega))
    · exact List.all_eq_true.1 (List.all_eq_true.1 comS_2 v (hm h4.1 h4.2)) k (List.mem_range.2 (by omega))
    · exact List.all_eq_true.1 (List.all_eq_true.1 comS_3 v (hm h4.1 h4.2)) k (List.mem_range.2 (by omega))
  unfold comS at key
  rw [e1, e2, e3, e4, hL] at key
  rw [srtR_isort]
  simpa using key
theorem subL_len (v k : Nat) : (subL v k).length = chP v k := by simp [subL]
/-! triples -/
def zbT (t x y : Nat) : Nat := (t + 1) * (x + y) % (2 * t + 1)
def zbR (t x y i : Nat) : List Int := blkP ((x + (2 * t + 1) * i : Nat) : Int) ((y + (2 * t + 1) * i : Nat) : Int) ((zbT t x y + (2 * t + 1) * ((i + 1) % 3) : Nat) : Int)
def zbI (t x y i : Nat) : List (List Int) := ((List.range 3).drop i).map fun i => zbR t x y i
def zbY (t x y : Nat) : List (List Int) := ((List.range (2 * t + 1)).drop y).flatMap fun y => zbI t x y 0
def zbB (t x : Nat) : List Int := blkP (x : Int) ((x + (2 * t + 1) : Nat) : Int) ((x + 2 * (2 * t + 1) : Nat) : Int)
def zbX (t x : Nat) : List (List Int) := ((List.range (2 * t + 1)).drop x).flatMap fun x => zbB t x :: zbY t x (x + 1)
def zbL (t : Nat) : List (List Int) := zbX t 0
theorem zbI_step {t x y i : Nat} (h : i < 3) : zbI t x y i = zbR t x y i :: zbI t x y (i + 1) := by unfold zbI; rw [rdropK h, List.map_cons]
theorem zbI_end (t x y : Nat) : zbI t x y 3 = [] := rfl
theorem zbY_step {t x y : Nat} (h : y < 2 * t + 1) : zbY t x y = zbI t x y 0 ++ zbY t x (y + 1) := by unfold zbY; rw [rdropK h, List.flatMap_cons]
theorem zbY_end {t x y : Nat} (h : 2 * t + 1 ≤ y) : zbY t x y = [] := by unfold zbY; rw [rdropK_end h]; rfl
theorem zbX_step {t x : Nat} (h : x < 2 * t + 1) : zbX t x = zbB t x :: (zbY t x (x + 1) ++ zbX t (x + 1)) := by unfold zbX; rw [rdropK h, List.flatMap_cons]; rfl
theorem zbX_end {t x : Nat} (h : 2 * t + 1 ≤ x) : zbX t x = [] := by unfold zbX; rw [rdropK_end h]; rfl
def triS (v : Nat) : List (List Int) := if v % 6 = 3 then zbL ((v - 3) / 6) else skoP ((v - 1) / 6)
def triSC (v : Nat) : Bool := decide ((triS v).length ≤ 128) && (triS v).all fun r => decide (r.length ≤ 3)
theorem triS_ok : ([3, 7, 9, 13, 15, 19, 21, 25, 27].all triSC) = true := by decide +kernel
theorem triS_all : ([7, 9, 13, 15, 19, 21, 25, 27].all fun v => decide (isortR (triS v) = isortR (triLC v))) = true := by decide +kernel
theorem triS_srt {v : Nat} (h : v ∈ [7, 9, 13, 15, 19, 21, 25, 27]) : srtR (triS v) = srtR (triL v) := by
  rw [srtR_isort, srtR_isort, triL_C]
  exact of_decide_eq_true (List.all_eq_true.1 triS_all v h)
/-! sets of squares and their translates -/
def sqrS (v : Nat) : Nat → List Int
  | 0 => []
  | i + 1 => putG sgnI (sqrS v i) (((i + 1) * (i + 1) % v : Nat) : Int)
theorem sqrS_len (v i : Nat) : (sqrS v i).length ≤ i := by
  induction i with
  | zero => exact Nat.le_refl _
  | succ i ih => have := putG_len (c := sgnI) (sqrS v i) (((i + 1) * (i + 1) % v : Nat) : Int); rw [sqrS]; omega
def movS (n : Nat) (s : List Int) (b : Nat) : Nat → List Int
  | 0 => []
  | i + 1 => putG sgnI (movS n s b i) ((nth s i * 1 + (b : Int)) % (n : Int))
theorem movS_len (n : Nat) (s : List Int) (b i : Nat) : (movS n s b i).length ≤ i := by
  induction i with
  | zero => exact Nat.le_refl _
  | succ i ih => have := putG_len (c := sgnI) (movS n s b i) ((nth s i * 1 + (b : Int)) % (n : Int)); rw [movS]; omega
def devS (n : Nat) (s : List Int) (k : Nat) : List (List Int) := (List.range k).map fun (b : Nat) => movS n s b s.length
theorem devS_step (n : Nat) (s : List Int) (k : Nat) : devS n s (k + 1) = devS n s k ++ [movS n s k s.length] := by simp [devS, List.range_succ]
theorem devS_len (n : Nat) (s : List Int) (k : Nat) : (devS n s k).length = k := by simp [devS]
def dfcS (v : Nat) : Bool := decide (sqrS v (v - 1) = sqK v v) && decide (isortR (devS v (sqK v v) v) = isortR (devC v (sqK v v) v)) && (devS v (sqK v v) v).all fun s => okS v s
theorem dfcS_all : ([7, 11, 19, 23, 31].all dfcS) = true := by decide +kernel
theorem dfcS_at {v : Nat} (h : v ∈ [7, 11, 19, 23, 31]) : sqrS v (v - 1) = sqK v v ∧ srtR (devS v (sqK v v) v) = srtR (devK v (sqK v v) v) ∧ ∀ s ∈ devS v (sqK v v) v, Block s (v : Int) := by
  have := List.all_eq_true.1 dfcS_all v h
  simp only [dfcS, Bool.and_eq_true, decide_eq_true_eq, List.all_eq_true] at this
  exact ⟨this.1.1, by rw [srtR_isort, srtR_isort, devK_C]; exact this.1.2, fun s hs => (okS_block (this.2 s hs)).1⟩
/-! designs of Hadamard matrices -/
def posS (l : List Int) (k : Nat) : List Int := ((List.range k).filter fun j => decide (0 < nth l (j + 1))).map fun (j : Nat) => (j : Int)
theorem posS_yes {l : List Int} {k : Nat} (h : 0 < nth l (k + 1)) : posS l (k + 1) = posS l k ++ [(k : Int)] := by simp only [posS, List.range_succ, List.filter_append, List.filter_cons, decide_eq_true h, List.map_append]; rfl
theorem posS_no {l : List Int} {k : Nat} (h : ¬ 0 < nth l (k + 1)) : posS l (k + 1) = posS l k := by simp only [posS, List.range_succ, List.filter_append, List.filter_cons, decide_eq_false h, List.map_append]; simp
theorem posS_len (l : List Int) (k : Nat) : (posS l k).length ≤ k := by
  unfold posS
  rw [List.length_map]
  exact Nat.le_trans (List.length_filter_le _ _) (by simp)
def hdS (h : List (List Int)) (i : Nat) : List (List Int) := (List.range i).map fun i => posS (row h (i + 1)) (h.length - 1)
theorem hdS_step (h : List (List Int)) (i : Nat) : hdS h (i + 1) = hdS h i ++ [posS (row h (i + 1)) (h.length - 1)] := by simp [hdS, List.range_succ]
theorem hdS_len (h : List (List Int)) (i : Nat) : (hdS h i).length = i := by simp [hdS]
def hadS (v : Nat) (h : List (List Int)) : Bool := decide (h.length = v + 1) && hadB h && decide (isortR (hdS h v) = isortR (hdL h)) && ((hdS h v).all fun s => okS v s) && ((List.range (v + 1)).all fun i => decide (nth (row h 0) i = 1) && decide (nth (row h i) 0 = 1))
theorem hadS_all : (hadS 15 H16 && hadS 27 H28) = true := by decide +kernel
structure HadS (v : Nat) (h : List (List Int)) : Prop where
  len : h.length = v + 1
  had : Had h
  eq : srtR (hdS h v) = srtR (hdL h)
  blk : ∀ s ∈ hdS h v, Block s (v : Int)
  c0 : ∀ i, i < v + 1 → nth (row h 0) i = 1
  r0 : ∀ i, i < v + 1 → nth (row h i) 0 = 1
theorem hadS_at {v : Nat} {h : List (List Int)} (e : hadS v h = true) : HadS v h := by
  simp only [hadS, Bool.and_eq_true, decide_eq_true_eq, List.all_eq_true, List.mem_range] at e
  obtain ⟨⟨⟨⟨e1, e2⟩, e3⟩, e4⟩, e5⟩ := e
  exact ⟨e1, hadB_ok e2, by rw [srtR_isort, srtR_isort]; exact e3, fun s hs => (okS_block (e4 s hs)).1, fun i hi => (e5 i hi).1, fun i hi => (e5 i hi).2⟩
theorem hadS15 : HadS 15 H16 := hadS_at (by have := hadS_all; simp only [Bool.and_eq_true] at this; exact this.1)
theorem hadS27 : HadS 27 H28 := hadS_at (by have := hadS_all; simp only [Bool.and_eq_true] at this; exact this.2)
structure No1 (v k l : Nat) : Prop where
  h : ¬ (l = chP (v - 2) (k - 2) ∧ chP v k ≤ 128)
structure No2 (v k l : Nat) : Prop where
  h : ¬ (k = 3 ∧ l = 1 ∧ triB v = true)
structure No3 (v k l : Nat) : Prop where
  h : ¬ (l = 1 ∧ v = k * k)
structure No4 (v k l : Nat) : Prop where
  h : ¬ (l = 1 ∧ v + k = k * k + 1)
structure No5 (v k l : Nat) : Prop where
  h : ¬ (v = 4 * l + 3 ∧ isP v = true ∧ (sqK v v).length = k)
structure No6 (v k l : Nat) : Prop where
  h : ¬ (v = 4 * l + 3 ∧ k = 2 * l + 1)
section
variable {v k l : Nat}
theorem No1.d (n : No1 v k l) : dirO 1 v k l = none := by unfold dirO; rw [if_pos rfl, if_neg n.h]
theorem No2.d (n : No2 v k l) : dirO 2 v k l = none := by unfold dirO; rw [if_neg (by decide), if_pos rfl, if_neg n.h]
theorem No3.d (n : No3 v k l) : dirO 3 v k l = none := by unfold dirO; rw [if_neg (by decide), if_neg (by decide), if_pos rfl, if_neg n.h]
theorem No4.d (n : No4 v k l) : dirO 4 v k l = none := by unfold dirO; rw [if_neg (by decide), if_neg (by decide), if_neg (by decide), if_pos rfl, if_neg n.h]
theorem No5.d (n : No5 v k l) : dirO 5 v k l = none := by unfold dirO; rw [if_neg (by decide), if_neg (by decide), if_neg (by decide), if_neg (by decide), if_pos rfl, if_neg n.h]
theorem No6.d (n : No6 v k l) : dirO 6 v k l = none := by unfold dirO; rw [if_neg (by decide), if_neg (by decide), if_neg (by decide), if_neg (by decide), if_neg (by decide), if_neg n.h]
theorem fst_1 (hr : InR v k l) (h : l = chP (v - 2) (k - 2) ∧ chP v k ≤ 128) : fstD v k l = some (1, subL v k) := by
  obtain ⟨L, e1, e2, e3⟩ := com_at hr.v3 hr.v32 hr.k2 hr.kv h.2
  have hd : dirO 1 v k l = some (srtR L) := by unfold dirO; rw [if_pos rfl, if_pos h, e1]; rfl
  simp only [fstD, fstO, hd]
  rw [comS_at hr.v3 hr.v32 hr.k2 hr.kv h.2 e1]
theorem fst_2 (n1 : No1 v k l) (h : k = 3 ∧ l = 1 ∧ triB v = true) : fstD v k l = some (2, srtR (triL v)) := by
  have hd : dirO 2 v k l = some (srtR (triL v)) := by unfold dirO; rw [if_neg (by decide), if_pos rfl, if_pos h]
  simp only [fstD, fstO, n1.d, hd]
theorem fst_3 (n1 : No1 v k l) (n2 : No2 v k l) (h : l = 1 ∧ v = k * k) : fstD v k l = some (3, srtR (affQ k)) := by
  have hd : dirO 3 v k l = some (srtR (affQ k)) := by unfold dirO; rw [if_neg (by decide), if_neg (by decide), if_pos rfl, if_pos h]
  simp only [fstD, fstO, n1.d, n2.d, hd]
theorem fst_4 (n1 : No1 v k l) (n2 : No2 v k l) (n3 : No3 v k l) (h : l = 1 ∧ v + k = k * k + 1) : fstD v k l = some (4, srtR (prjQ (k - 1))) := by
  have hd : dirO 4 v k l = some (srtR (prjQ (k - 1))) := by unfold dirO; rw [if_neg (by decide), if_neg (by decide), if_neg (by decide), if_pos rfl, if_pos h]
  simp only [fstD, fstO, n1.d, n2.d, n3.d, hd]
theorem fst_5 (n1 : No1 v k l) (n2 : No2 v k l) (n3 : No3 v k l) (n4 : No4 v k l) (h : v = 4 * l + 3 ∧ isP v = true ∧ (sqK v v).length = k) : fstD v k l = some (5, srtR (devK v (sqK v v) v)) := by
  have hd : dirO 5 v k l = some (srtR (devK v (sqK v v) v)) := by unfold dirO; rw [if_neg (by decide), if_neg (by decide), if_neg (by decide), if_neg (by decide), if_pos rfl, if_pos h]
  simp only [fstD, fstO, n1.d, n2.d, n3.d, n4.d, hd]
theorem fst_6 (n1 : No1 v k l) (n2 : No2 v k l) (n3 : No3 v k l) (n4 : No4 v k l) (n5 : No5 v k l) (h : v = 4 * l + 3 ∧ k = 2 * l + 1) : fstD v k l = some (6, srtR (hdL (hadF v))) := by
  have hd : dirO 6 v k l = some (srtR (hdL (hadF v))) := by unfold dirO; rw [if_neg (by decide), if_neg (by decide), if_neg (by decide), if_neg (by decide), if_neg (by decide), if_pos h]
  simp only [fstD, fstO, n1.d, n2.d, n3.d, n4.d, n5.d, hd]
theorem fst_0 (n1 : No1 v k l) (n2 : No2 v k l) (n3 : No3 v k l) (n4 : No4 v k l) (n5 : No5 v k l) (n6 : No6 v k l) : fstD v k l = none := by
  simp only [fstD, fstO, n1.d, n2.d, n3.d, n4.d, n5.d, n6.d]
theorem sq_mem (hr : InR v k l) (h : v = 4 * l + 3) (hp : isP v = true) : v ∈ [7, 11, 19, 23, 31] := by
  have ha := sqs_all
  simp only [Bool.and_eq_true, List.all_eq_true, Bool.not_eq_true'] at ha
  have h1 := hr.l1
  have hv := hr.v32
  have hl : v = 7 ∨ v = 11 ∨ v = 15 ∨ v = 19 ∨ v = 23 ∨ v = 27 ∨ v = 31 := by omega
  rcases hl with rfl | rfl | rfl | rfl | rfl | rfl | rfl <;> first | decide | exact absurd (show isP 15 = true from hp) (by rw [ha.1.2]; decide) | exact absurd (show isP 27 = true from hp) (by rw [ha.2]; decide)
theorem prj_bd (hr : InR v k l) (n1 : No1 v k l) (h : l = 1 ∧ v + k = k * k + 1) : ∃ q, k = q + 1 ∧ 2 ≤ q ∧ q ≤ 5 ∧ v = q * q + q + 1 := by
  obtain ⟨rfl, hkk⟩ := h
  have v32 := hr.v32
  have k2 := hr.k2
  have k6 : k ≤ 6 := by
    by_cases h7 : 7 ≤ k
    · obtain ⟨j, rfl⟩ : ∃ j, k = j + 7 := ⟨k - 7, by omega⟩
      have e1 : (j + 7) * (j + 7) = (j + 7) * j + (j + 7) * 7 := Nat.mul_add _ _ _
      omega
    · omega
  have k3 : 3 ≤ k := by
    by_cases h2 : k = 2
    · subst h2
      obtain rfl : v = 3 := by omega
      exact absurd ⟨by decide, by decide⟩ n1.h
    · omega
  obtain ⟨q, rfl⟩ : ∃ q, k = q + 1 := ⟨k - 1, by omega⟩
  have e1 : (q + 1) * (q + 1) = q * q + q + q + 1 := by rw [Nat.add_mul, Nat.mul_add, Nat.mul_add]; omega
  exact ⟨q, rfl, by omega, by omega, by omega⟩
theorem aff_bd (hr : InR v k l) (h : v = k * k) : k ≤ 5 := by
  have := hr.v32
  by_cases h6 : 6 ≤ k
  · have : 6 * 6 ≤ k * k := Nat.mul_le_mul h6 h6
    omega
  · omega
theorem kk_bd (hr : InR v k l) : k * k ≤ 1024 := by
  have h1 := hr.v32
  have h2 := hr.kv
  have : k * k ≤ 32 * 32 := Nat.mul_le_mul (by omega) (by omega)
  omega
theorem tri_not (hr : InR v k l) (hk : k = 3) (h : triB v = false) : v ≠ 7 ∧ v ≠ 9 := by
  constructor
  · rintro rfl; exact absurd h (by decide)
  · rintro rfl; exact absurd h (by decide)
end
theorem no15 : No1 15 7 3 ∧ No2 15 7 3 ∧ No3 15 7 3 ∧ No4 15 7 3 ∧ No5 15 7 3 := by
  have ha := sqs_all
  simp only [Bool.and_eq_true, Bool.not_eq_true'] at ha
  exact ⟨⟨by decide +kernel⟩, ⟨by decide⟩, ⟨by decide⟩, ⟨by decide⟩, ⟨fun h => absurd (show isP 15 = true from h.2.1) (by rw [ha.1.2]; decide)⟩⟩
theorem no27 : No1 27 13 6 ∧ No2 27 13 6 ∧ No3 27 13 6 ∧ No4 27 13 6 ∧ No5 27 13 6 := by
  have ha := sqs_all
  simp only [Bool.and_eq_true, Bool.not_eq_true'] at ha
  exact ⟨⟨by decide +kernel⟩, ⟨by decide⟩, ⟨by decide⟩, ⟨by decide⟩, ⟨fun h => absurd (show isP 27 = true from h.2.1) (by rw [ha.2]; decide)⟩⟩
theorem fst15 : fstD 15 7 3 = some (6, srtR (hdL H16)) := by
  obtain ⟨n1, n2, n3, n4, n5⟩ := no15
  rw [fst_6 n1 n2 n3 n4 n5 ⟨by decide, by decide⟩, had15]
theorem fst27 : fstD 27 13 6 = some (6, srtR (hdL H28)) := by
  obtain ⟨n1, n2, n3, n4, n5⟩ := no27
  rw [fst_6 n1 n2 n3 n4 n5 ⟨by decide, by decide⟩, had27]
structure OB (w : World) (B : Nat) (A : Option Addr) (n c : Nat) (vs : List Sl) (zss : List (List Int)) : Prop where
  os : OS w B 36 1 A n c (vs.map slv)
  len : vs.length = zss.length
  rows : ∀ (j : Nat) (v : Sl) (z : List Int), vs[j]? = some v → zss[j]? = some z → OI w B 2 v.1 v.2.1 v.2.2 z
section
variable {w w' : World} {B : Nat} {A : Option Addr} {n c : Nat} {vs : List Sl} {zss : List (List Int)}
theorem OB.slen (h : OB w B A n c vs zss) : vs.length = n ∧ zss.length = n := by have := h.os.len; have := h.len; simp at *; omega
theorem OB.below (h : OB w B A n c vs zss) (hb : Below w.heap.size w w') : OB w' B A n c vs zss := ⟨h.os.below hb, h.len, fun j v z hv hz => (h.rows j v z hv hz).below hb⟩
theorem OB.setLow (h : OB w B A n c vs zss) {p : Addr} (hp : p.block < B) (u : Value) : OB (w.setCell p u) B A n c vs zss := ⟨h.os.setLow hp u, h.len, fun j v z hv hz => (h.rows j v z hv hz).setLow hp u⟩
theorem OB.more {B' : Nat} (h : OB w B A n c vs zss) (hB : B' ≤ B) : OB w B' A n c vs zss := ⟨h.os.more hB, h.len, fun j v z hv hz => (h.rows j v z hv hz).more hB⟩
theorem OB.reads (h : OB w B A n c vs zss) : RR w A n zss := by
  refine ⟨h.slen.2, fun j z hz => ?_⟩
  have hj : j < vs.length := by rw [h.len]; exact (List.getElem?_eq_some_iff.1 hz).1
  have hv := List.getElem?_eq_getElem hj
  obtain ⟨ad, ha, hc⟩ := h.os.cells j (slv vs[j]) (by rw [List.getElem?_map, hv]; rfl)
  have ho := h.rows j _ z hv hz
  exact ⟨ad, _, ha, hc, _, _, _, rfl, ho.os.cap.1, ho.os.cap.2, ho.reads⟩
end
end Go.Proofs.YtnmcmologlgccaaGreat
