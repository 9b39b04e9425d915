/- Triple systems by Skolem's construction, the reference's side. No condition beyond those stated. -/
import Derived.Test.YtdkbcjdimhgmnaaGreatRLB
set_option linter.unusedVariables false
set_option linter.unusedSimpArgs false
namespace Go.Proofs.YtdkbcjdimhgmnaaGreat
open Go.RowKit
def blkP (a b c : Int) : List Int := putG sgnI (putG sgnI [a] b) c
theorem blk_eq {a b c a' b' c' : Int} (h1 : a = a') (h2 : b = b') (h3 : c = c') : blkP a b c = blkP a' b' c' := by rw [h1, h2, h3]
set_option maxHeartbeats 800000 in
theorem l11Block_any (a b c : Int) (w : World) (ha : I64 a) (hb : I64 b) (hc : I64 c) :
    Calls Tryz.prog 219 #[.int .i64 a, .int .i64 b, .int .i64 c] w (RetI w 2 (blkP a b c)) := by
  have ho := OI.lit w w.heap.size 2 [a] (Nat.le_refl _) (by simp) (All64.one ha)
  have hb0 := below_alloc w (.cells (ints [a]).toArray 2)
  have h1 := l00Put_any _ 1 1 [a] b _ ho.reads (by omega) hb
  clear ho
  go_enter Tryz.func219, Tryz.ntmps219
  go_wp2_with fail
  refine h1.mono ?_
  rintro e w1 ⟨A1, n1, c1, rfl, ho1, hb1⟩
  have hl := ho1.len
  have hlen : n1 ≤ 2 := by
    rw [← hl]
    have := putG_len (c := sgnI) [a] b
    simpa using this
  have h2 := l00Put_any A1 n1 c1 _ c w1 ho1.reads (by omega) hc
  have hb2 := hb0.trans (hb1.mono hb0.size)
  clear h1 hb1 ho1 hl hlen
  go_wp2_with fail
  refine h2.mono ?_
  rintro e w2 ⟨A2, n2, c2, rfl, ho2, hb3⟩
  have ho3 := ho2.more hb2.size
  have hb4 := hb2.trans (hb3.mono hb2.size)
  clear h2 hb3 ho2
  go_wp2
  go_ret
  exact ⟨_, _, _, rfl, ho3, hb4⟩
def skoB (t x i : Nat) : List (List Int) := (List.range i).map fun i => blkP ((3 * (2 * t) : Nat) : Int) ((x + t + 2 * t * i : Nat) : Int) ((x + 2 * t * ((i + 1) % 3) : Nat) : Int)
def skoA (t x : Nat) : List (List Int) := (List.range x).flatMap fun (x : Nat) => blkP (x : Int) ((x + 2 * t : Nat) : Int) ((x + 2 * (2 * t) : Nat) : Int) :: skoB t x 3
def skoZ (t x y : Nat) : Nat := (x + y) % (2 * t) / 2 + if (x + y) % (2 * t) % 2 = 1 then t else 0
def skoD (t x y i : Nat) : List (List Int) := (List.range i).map fun i => blkP ((x + 2 * t * i : Nat) : Int) ((y + 2 * t * i : Nat) : Int) ((skoZ t x y + 2 * t * ((i + 1) % 3) : Nat) : Int)
def skoE (t x j : Nat) : List (List Int) := (List.range j).flatMap fun d => skoD t x (x + 1 + d) 3
def skoC (t x : Nat) : List (List Int) := (List.range x).flatMap fun x => skoE t x (2 * t - x - 1)
def skoP (t : Nat) : List (List Int) := skoA t t ++ skoC t (2 * t)
theorem skoB_step (t x i : Nat) : skoB t x (i + 1) = skoB t x i ++ [blkP ((3 * (2 * t) : Nat) : Int) ((x + t + 2 * t * i : Nat) : Int) ((x + 2 * t * ((i + 1) % 3) : Nat) : Int)] := by simp [skoB, List.range_succ]
theorem skoA_step (t x : Nat) : skoA t (x + 1) = skoA t x ++ [blkP (x : Int) ((x + 2 * t : Nat) : Int) ((x + 2 * (2 * t) : Nat) : Int)] ++ skoB t x 3 := by simp [skoA, List.range_succ, List.flatMap_append]
theorem skoD_step (t x y i : Nat) : skoD t x y (i + 1) = skoD t x y i ++ [blkP ((x + 2 * t * i : Nat) : Int) ((y + 2 * t * i : Nat) : Int) ((skoZ t x y + 2 * t * ((i + 1) % 3) : Nat) : Int)] := by simp [skoD, List.range_succ]
theorem skoE_step (t x j : Nat) : skoE t x (j + 1) = skoE t x j ++ skoD t x (x + 1 + j) 3 := by simp [skoE, List.range_succ, List.flatMap_append]
theorem skoC_step (t x : Nat) : skoC t (x + 1) = skoC t x ++ skoE t x (2 * t - x - 1) := by simp [skoC, List.range_succ, List.flatMap_append]
def Grw (w wr : World) (A : Option Addr) (k c : Nat) (zss : List (List Int)) : Prop := OR wr w.heap.size 22 2 A k c zss ∧ Below w.heap.size w wr
theorem Grw.start (w w1 : World) (hb : Below w.heap.size w w1) : Grw w (w1.alloc (.cells #[] 22)) (some ⟨w1.heap.size, 0, none⟩) 0 0 [] :=
  ⟨OR.of_own (OS.lit w1 w.heap.size 22 1 0 #[] hb.size rfl (by omega)) (by decide), hb.trans ((below_alloc _ _).mono hb.size)⟩
structure GrwR (w w2 : World) (A : Option Addr) (k c : Nat) (vs : List Sl) (zss : List (List Int)) (A2 : Option Addr) (n2 c2 : Nat) (r : List Int) : Prop where
  o : ORv w2 w.heap.size 22 2 A k c vs zss
  r : OI w2 w.heap.size 2 A2 n2 c2 r
  ap : ∀ (j : Nat) (u : Sl), vs[j]? = some u → apart u (A2, n2, c2)
  b : Below w.heap.size w w2
theorem Grw.row {w wr w2 : World} {A : Option Addr} {k c : Nat} {zss : List (List Int)} (h : Grw w wr A k c zss) {A2 : Option Addr} {n2 c2 : Nat} {r : List Int} (ho : OI w2 wr.heap.size 2 A2 n2 c2 r) (hb : Below wr.heap.size wr w2) : ∃ vs, GrwR w w2 A k c vs zss A2 n2 c2 r := by
  obtain ⟨⟨vs, hv⟩, hw⟩ := h
  exact ⟨vs, hv.below hb, ho.more hw.size, hv.apart_new (v := (A2, n2, c2)) (fun b hb => (ho.os.lt hb).1), hw.trans (hb.mono hw.size)⟩
theorem GrwR.done {w w2 w' : World} {A : Option Addr} {k c : Nat} {vs : List Sl} {zss : List (List Int)} {A2 : Option Addr} {n2 c2 : Nat} {r : List Int} (h : GrwR w w2 A k c vs zss A2 n2 c2 r) {A' : Option Addr} {k' c' : Nat} {vs' : List Sl} {zs' : List (List Int)} (ho : ORv w' w.heap.size 22 2 A' k' c' vs' zs') (hg : w2.grownBy w' (blk A)) : Grw w w' A' k' c' zs' :=
  ⟨⟨_, ho⟩, below_own h.b hg h.b.size (fun b hb => (h.o.os.lt hb).1)⟩
set_option maxRecDepth 100000 in
set_option maxHeartbeats 1000000 in
theorem l11Skolem_any (t : Nat) (w : World) (ht : t ≤ 5) :
    Calls Tryz.prog 180 #[.int .i64 t] w (RetR w 22 2 (skoP t)) := by
  have G0 := Grw.start w w (Below.refl _ _)
  obtain ⟨n, hn⟩ : ∃ n : Nat, n = 2 * t := ⟨_, rfl⟩
  have hnt : 2 * (t : Int) = (n : Int) := by omega
  have hn10 : n ≤ 10 := by omega
  have HN := Lib.hid hn
  clear hn
  go_enter Tryz.func180, Tryz.ntmps180
  go_wp2
  clear hnt
  go_loopw [4, 5] (fun ov xv wr => ∃ (x : Nat) (A : Option Addr) (k c : Nat), x ≤ t ∧ xv = .int .i64 x ∧ ov = .slice A k c ∧ Grw w wr A k c (skoA t x) ∧ k ≤ 4 * x) (fun _ xv _ => t - (intOf xv).toNat)
  case atStart => exact ⟨0, _, 0, 0, Nat.zero_le _, rfl, rfl, by simpa [skoA] using G0, by omega⟩
  case round =>
    clear G0
    obtain ⟨x, A, k, c, hx, rfl, rfl, G, hk⟩ := hrel
    by_cases hlt : x < t
    · go_wp2_with fail
      refine (l11Block_any _ _ _ _ ?_ ?_ ?_).mono ?_
      · unfold I64; omega
      · unfold I64; omega
      · unfold I64; omega
      rintro e w2 ⟨A2, n2, c2, rfl, ho2, hb2⟩
      rw [blk_eq (a' := ((x : Nat) : Int)) (b' := ((x + 2 * t : Nat) : Int)) (c' := ((x + 2 * (2 * t) : Nat) : Int)) (by have := HN.out; omega) (by have := HN.out; omega) (by have := HN.out; omega)] at ho2
      obtain ⟨vs, G⟩ := G.row ho2 hb2
      have hlw := G.b.size
      clear ho2 hb2
      go_wp2_with (at_builtin; refine app_row _ rfl (.tmp 20) (.tmp 30) rfl w.heap.size A k c vs _ rfl G.o (A2, n2, c2) _ G.r G.ap _ rfl (by simp) (Nat.le_trans (Nat.succ_le_succ hk) (by omega)) hlw ?_; intro A3 c3 w3 ho3 hg3 hf3)
      have G := G.done ho3 hg3
      clear ho3 hg3 hf3 hlw
      go_loopw [4, 6] (fun ov iv wr => ∃ (i : Nat) (A : Option Addr) (k c : Nat), i ≤ 3 ∧ iv = .int .i64 i ∧ ov = .slice A k c ∧ Grw w wr A k c (skoA t x ++ [blkP (x : Int) ((x + 2 * t : Nat) : Int) ((x + 2 * (2 * t) : Nat) : Int)] ++ skoB t x i) ∧ k ≤ 4 * x + 1 + i) (fun _ iv _ => 3 - (intOf iv).toNat)
      case atStart => exact ⟨0, A3, k + 1, c3, Nat.zero_le _, rfl, rfl, by simpa [skoB] using G, by omega⟩
      case round =>
        clear G hk
        obtain ⟨i, A, k, c, hi, rfl, rfl, G, hk⟩ := hrel
        by_cases hli : i < 3
        · have h3 : i = 0 ∨ i = 1 ∨ i = 2 := by omega
          clear hli
          rcases h3 with rfl | rfl | rfl
          · go_wp2_with fail
            refine (l11Block_any _ _ _ _ ?_ ?_ ?_).mono ?_
            · unfold I64; omega
            · unfold I64; omega
            · unfold I64; omega
            rintro e w2 ⟨A2, n2, c2, rfl, ho2, hb2⟩
            rw [blk_eq (a' := ((3 * (2 * t) : Nat) : Int)) (b' := ((x + t + 2 * t * 0 : Nat) : Int)) (c' := ((x + 2 * t * ((0 + 1) % 3) : Nat) : Int)) (by have := HN.out; omega) (by have := HN.out; omega) (by have := HN.out; omega)] at ho2
            obtain ⟨vs, G⟩ := G.row ho2 hb2
            have hlw := G.b.size
            clear ho2 hb2
            go_wp2_with (at_builtin; refine app_row _ rfl (.tmp 36) (.tmp 54) rfl w.heap.size A k c vs _ rfl G.o (A2, n2, c2) _ G.r G.ap _ rfl (by simp) (Nat.le_trans (Nat.succ_le_succ hk) (by omega)) hlw ?_; intro A3 c3 w3 ho3 hg3 hf3)
            have G := G.done ho3 hg3
            clear ho3 hg3 hf3 hlw
            rw [List.append_assoc, ← skoB_step] at G
            go_roundw
            case rel => exact ⟨1, A3, k + 1, c3, by omega, by go_num, rfl, G, by omega⟩
            case measure => simp [intOf]
          · go_wp2_with fail
            refine (l11Block_any _ _ _ _ ?_ ?_ ?_).mono ?_
            · unfold I64; omega
            · unfold I64; omega
            · unfold I64; omega
            rintro e w2 ⟨A2, n2, c2, rfl, ho2, hb2⟩
            rw [blk_eq (a' := ((3 * (2 * t) : Nat) : Int)) (b' := ((x + t + 2 * t * 1 : Nat) : Int)) (c' := ((x + 2 * t * ((1 + 1) % 3) : Nat) : Int)) (by have := HN.out; omega) (by have := HN.out; omega) (by have := HN.out; omega)] at ho2
            obtain ⟨vs, G⟩ := G.row ho2 hb2
            have hlw := G.b.size
            clear ho2 hb2
            go_wp2_with (at_builtin; refine app_row _ rfl (.tmp 36) (.tmp 54) rfl w.heap.size A k c vs _ rfl G.o (A2, n2, c2) _ G.r G.ap _ rfl (by simp) (Nat.le_trans (Nat.succ_le_succ hk) (by omega)) hlw ?_; intro A3 c3 w3 ho3 hg3 hf3)
            have G := G.done ho3 hg3
            clear ho3 hg3 hf3 hlw
            rw [List.append_assoc, ← skoB_step] at G
            go_roundw
            case rel => exact ⟨2, A3, k + 1, c3, by omega, by go_num, rfl, G, by omega⟩
            case measure => simp [intOf]
          · go_wp2_with fail
            refine (l11Block_any _ _ _ _ ?_ ?_ ?_).mono ?_
            · unfold I64; omega
            · unfold I64; omega
            · unfold I64; omega
            rintro e w2 ⟨A2, n2, c2, rfl, ho2, hb2⟩
            rw [blk_eq (a' := ((3 * (2 * t) : Nat) : Int)) (b' := ((x + t + 2 * t * 2 : Nat) : Int)) (c' := ((x + 2 * t * ((2 + 1) % 3) : Nat) : Int)) (by have := HN.out; omega) (by have := HN.out; omega) (by have := HN.out; omega)] at ho2
            obtain ⟨vs, G⟩ := G.row ho2 hb2
            have hlw := G.b.size
            clear ho2 hb2
            go_wp2_with (at_builtin; refine app_row _ rfl (.tmp 36) (.tmp 54) rfl w.heap.size A k c vs _ rfl G.o (A2, n2, c2) _ G.r G.ap _ rfl (by simp) (Nat.le_trans (Nat.succ_le_succ hk) (by omega)) hlw ?_; intro A3 c3 w3 ho3 hg3 hf3)
            have G := G.done ho3 hg3
            clear ho3 hg3 hf3 hlw
            rw [List.append_assoc, ← skoB_step] at G
            go_roundw
            case rel => exact ⟨3, A3, k + 1, c3, by omega, by go_num, rfl, G, by omega⟩
            case measure => simp [intOf]
        · obtain rfl : i = 3 := by omega
          rw [← skoA_step] at G
          go_wp2
          go_roundw
          case rel => exact ⟨x + 1, A, k, c, by omega, by go_num, rfl, G, by omega⟩
          case measure => simp [intOf]; omega
    · obtain rfl : x = t := by omega
      go_wp2
      go_loopw [4, 7] (fun ov xv wr => ∃ (a : Nat) (A : Option Addr) (k c : Nat), a ≤ n ∧ xv = .int .i64 a ∧ ov = .slice A k c ∧ Grw w wr A k c (skoA x x ++ skoC x a) ∧ k ≤ 20 + 30 * a) (fun _ xv _ => n - (intOf xv).toNat)
      case atStart => exact ⟨0, A, k, c, Nat.zero_le _, rfl, rfl, by simpa [skoC] using G, by omega⟩
      case round =>
        clear G hk
        obtain ⟨a, A, k, c, ha, rfl, rfl, G, hk⟩ := hrel
        by_cases hla : a < n
        · go_wp2
          go_loopw [4, 8] (fun ov yv wr => ∃ (j : Nat) (A : Option Addr) (k c : Nat), a + 1 + j ≤ n ∧ yv = .int .i64 ((a + 1 + j : Nat) : Int) ∧ ov = .slice A k c ∧ Grw w wr A k c (skoA x x ++ skoC x a ++ skoE x a j) ∧ k ≤ 20 + 30 * a + 3 * j) (fun _ yv _ => n - (intOf yv).toNat)
          case atStart => exact ⟨0, A, k, c, by omega, by go_num, rfl, by simpa [skoE] using G, by omega⟩
          case round =>
            clear G hk
            obtain ⟨j, A, k, c, hj, rfl, rfl, G, hk⟩ := hrel
            obtain ⟨y, hy⟩ : ∃ y, y = a + 1 + j := ⟨_, rfl⟩
            have HY := Lib.hid hy
            rw [← hy] at hj ⊢
            have hj9 : j ≤ 9 := by omega
            clear hy
            by_cases hly : y < n
            · have hn0 : ¬ n = 0 := by omega
              have q1 : ((a : Int) + (y : Int)).tmod (n : Int) = (((a + y) % n : Nat) : Int) := by rw [Int.tmod_eq_emod_of_nonneg (by omega), Int.natCast_emod, Int.natCast_add]
              have HS : Hid (skoZ x a y = (a + y) % n / 2 + if (a + y) % n % 2 = 1 then x else 0) := Lib.hid (by rw [HN.out]; rfl)
              have hsl : (a + y) % n < n := Nat.mod_lt _ (by omega)
              generalize (a + y) % n = s at *
              have q2 : (s : Int).tdiv 2 = ((s / 2 : Nat) : Int) := by rw [Int.tdiv_eq_ediv_of_nonneg (by omega)]; omega
              by_cases hs2 : s % 2 = 1
              · have q3 : (s : Int).tmod 2 = 1 := by rw [Int.tmod_eq_emod_of_nonneg (by omega)]; omega
                have HZ : Hid (skoZ x a y = s / 2 + x) := Lib.hid (by rw [HS.out, if_pos hs2])
                clear HS hs2
                go_wp2
                go_loopw [4, 11] (fun ov iv wr => ∃ (i : Nat) (A : Option Addr) (k c : Nat), i ≤ 3 ∧ iv = .int .i64 i ∧ ov = .slice A k c ∧ Grw w wr A k c (skoA x x ++ skoC x a ++ skoE x a j ++ skoD x a y i) ∧ k ≤ 20 + 30 * a + 3 * j + i) (fun _ iv _ => 3 - (intOf iv).toNat)
                case atStart => exact ⟨0, A, k, c, Nat.zero_le _, rfl, rfl, by simpa [skoD] using G, by omega⟩
                case round =>
                  clear G hk q1 q2 q3 hn0
                  obtain ⟨i, A, k, c, hi, rfl, rfl, G, hk⟩ := hrel
                  by_cases hli : i < 3
                  · have h3 : i = 0 ∨ i = 1 ∨ i = 2 := by omega
                    clear hli
                    rcases h3 with rfl | rfl | rfl
                    · go_wp2_with fail
                      refine (l11Block_any _ _ _ _ ?_ ?_ ?_).mono ?_
                      · unfold I64; omega
                      · unfold I64; omega
                      · unfold I64; omega
                      rintro e w2 ⟨A2, n2, c2, rfl, ho2, hb2⟩
                      rw [blk_eq (a' := ((a + 2 * x * 0 : Nat) : Int)) (b' := ((y + 2 * x * 0 : Nat) : Int)) (c' := ((skoZ x a y + 2 * x * ((0 + 1) % 3) : Nat) : Int)) (by have := HN.out; omega) (by have := HN.out; omega) (by have := HN.out; have := HZ.out; omega)] at ho2
                      obtain ⟨vs, G⟩ := G.row ho2 hb2
                      have hlw := G.b.size
                      clear ho2 hb2
                      go_wp2_with (at_builtin; refine app_row _ rfl (.tmp 85) (.tmp 104) rfl w.heap.size A k c vs _ rfl G.o (A2, n2, c2) _ G.r G.ap _ rfl (by simp) (Nat.le_trans (Nat.succ_le_succ hk) (by omega)) hlw ?_; intro A3 c3 w3 ho3 hg3 hf3)
                      have G := G.done ho3 hg3
                      clear ho3 hg3 hf3 hlw
                      rw [List.append_assoc, ← skoD_step] at G
                      go_roundw
                      case rel => exact ⟨1, A3, k + 1, c3, by omega, by go_num, rfl, G, by omega⟩
                      case measure => simp [intOf]
                    · go_wp2_with fail
                      refine (l11Block_any _ _ _ _ ?_ ?_ ?_).mono ?_
                      · unfold I64; omega
                      · unfold I64; omega
                      · unfold I64; omega
                      rintro e w2 ⟨A2, n2, c2, rfl, ho2, hb2⟩
                      rw [blk_eq (a' := ((a + 2 * x * 1 : Nat) : Int)) (b' := ((y + 2 * x * 1 : Nat) : Int)) (c' := ((skoZ x a y + 2 * x * ((1 + 1) % 3) : Nat) : Int)) (by have := HN.out; omega) (by have := HN.out; omega) (by have := HN.out; have := HZ.out; omega)] at ho2
                      obtain ⟨vs, G⟩ := G.row ho2 hb2
                      have hlw := G.b.size
                      clear ho2 hb2
                      go_wp2_with (at_builtin; refine app_row _ rfl (.tmp 85) (.tmp 104) rfl w.heap.size A k c vs _ rfl G.o (A2, n2, c2) _ G.r G.ap _ rfl (by simp) (Nat.le_trans (Nat.succ_le_succ hk) (by omega)) hlw ?_; intro A3 c3 w3 ho3 hg3 hf3)
                      have G := G.done ho3 hg3
                      clear ho3 hg3 hf3 hlw
                      rw [List.append_assoc, ← skoD_step] at G
                      go_roundw
                      case rel => exact ⟨2, A3, k + 1, c3, by omega, by go_num, rfl, G, by omega⟩
                      case measure => simp [intOf]
                    · go_wp2_with fail
                      refine (l11Block_any _ _ _ _ ?_ ?_ ?_).mono ?_
                      · unfold I64; omega
                      · unfold I64; omega
                      · unfold I64; omega
                      rintro e w2 ⟨A2, n2, c2, rfl, ho2, hb2⟩
                      rw [blk_eq (a' := ((a + 2 * x * 2 : Nat) : Int)) (b' := ((y + 2 * x * 2 : Nat) : Int)) (c' := ((skoZ x a y + 2 * x * ((2 + 1) % 3) : Nat) : Int)) (by have := HN.out; omega) (by have := HN.out; omega) (by have := HN.out; have := HZ.out; omega)] at ho2
                      obtain ⟨vs, G⟩ := G.row ho2 hb2
                      have hlw := G.b.size
                      clear ho2 hb2
                      go_wp2_with (at_builtin; refine app_row _ rfl (.tmp 85) (.tmp 104) rfl w.heap.size A k c vs _ rfl G.o (A2, n2, c2) _ G.r G.ap _ rfl (by simp) (Nat.le_trans (Nat.succ_le_succ hk) (by omega)) hlw ?_; intro A3 c3 w3 ho3 hg3 hf3)
                      have G := G.done ho3 hg3
                      clear ho3 hg3 hf3 hlw
                      rw [List.append_assoc, ← skoD_step] at G
                      go_roundw
                      case rel => exact ⟨3, A3, k + 1, c3, by omega, by go_num, rfl, G, by omega⟩
                      case measure => simp [intOf]
                  · obtain rfl : i = 3 := by omega
                    rw [HY.out, List.append_assoc, ← skoE_step] at G
                    go_wp2
                    go_roundw
                    case rel => exact ⟨j + 1, A, k, c, by have := HY.out; omega, by rw [HY.out]; go_num, rfl, G, by omega⟩
                    case measure => have := HY.out; simp [intOf]; omega
              · have q3 : (s : Int).tmod 2 = 0 := by rw [Int.tmod_eq_emod_of_nonneg (by omega)]; omega
                have HZ : Hid (skoZ x a y = s / 2) := Lib.hid (by rw [HS.out, if_neg hs2, Nat.add_zero])
                clear HS hs2
                go_wp2
                go_loopw [4, 11] (fun ov iv wr => ∃ (i : Nat) (A : Option Addr) (k c : Nat), i ≤ 3 ∧ iv = .int .i64 i ∧ ov = .slice A k c ∧ Grw w wr A k c (skoA x x ++ skoC x a ++ skoE x a j ++ skoD x a y i) ∧ k ≤ 20 + 30 * a + 3 * j + i) (fun _ iv _ => 3 - (intOf iv).toNat)
                case atStart => exact ⟨0, A, k, c, Nat.zero_le _, rfl, rfl, by simpa [skoD] using G, by omega⟩
                case round =>
                  clear G hk q1 q2 q3 hn0
                  obtain ⟨i, A, k, c, hi, rfl, rfl, G, hk⟩ := hrel
                  by_cases hli : i < 3
                  · have h3 : i = 0 ∨ i = 1 ∨ i = 2 := by omega
                    clear hli
                    rcases h3 with rfl | rfl | rfl
                    · go_wp2_with fail
                      refine (l11Block_any _ _ _ _ ?_ ?_ ?_).mono ?_
                      · unfold I64; omega
                      · unfold I64; omega
                      · unfold I64; omega
                      rintro e w2 ⟨A2, n2, c2, rfl, ho2, hb2⟩
                      rw [blk_eq (a' := ((a + 2 * x * 0 : Nat) : Int)) (b' := ((y + 2 * x * 0 : Nat) : Int)) (c' := ((skoZ x a y + 2 * x * ((0 + 1) % 3) : Nat) : Int)) (by have := HN.out; omega) (by have := HN.out; omega) (by have := HN.out; have := HZ.out; omega)] at ho2
                      obtain ⟨vs, G⟩ := G.row ho2 hb2
                      have hlw := G.b.size
                      clear ho2 hb2
                      go_wp2_with (at_builtin; refine app_row _ rfl (.tmp 85) (.tmp 104) rfl w.heap.size A k c vs _ rfl G.o (A2, n2, c2) _ G.r G.ap _ rfl (by simp) (Nat.le_trans (Nat.succ_le_succ hk) (by omega)) hlw ?_; intro A3 c3 w3 ho3 hg3 hf3)
                      have G := G.done ho3 hg3
                      clear ho3 hg3 hf3 hlw
                      rw [List.append_assoc, ← skoD_step] at G
                      go_roundw
                      case rel => exact ⟨1, A3, k + 1, c3, by omega, by go_num, rfl, G, by omega⟩
                      case measure => simp [intOf]
                    · go_wp2_with fail
                      refine (l11Block_any _ _ _ _ ?_ ?_ ?_).mono ?_
                      · unfold I64; omega
                      · unfold I64; omega
                      · unfold I64; omega
                      rintro e w2 ⟨A2, n2, c2, rfl, ho2, hb2⟩
                      rw [blk_eq (a' := ((a + 2 * x * 1 : Nat) : Int)) (b' := ((y + 2 * x * 1 : Nat) : Int)) (c' := ((skoZ x a y + 2 * x * ((1 + 1) % 3) : Nat) : Int)) (by have := HN.out; omega) (by have := HN.out; omega) (by have := HN.out; have := HZ.out; omega)] at ho2
                      obtain ⟨vs, G⟩ := G.row ho2 hb2
                      have hlw := G.b.size
                      clear ho2 hb2
                      go_wp2_with (at_builtin; refine app_row _ rfl (.tmp 85) (.tmp 104) rfl w.heap.size A k c vs _ rfl G.o (A2, n2, c2) _ G.r G.ap _ rfl (by simp) (Nat.le_trans (Nat.succ_le_succ hk) (by omega)) hlw ?_; intro A3 c3 w3 ho3 hg3 hf3)
                      have G := G.done ho3 hg3
                      clear ho3 hg3 hf3 hlw
                      rw [List.append_assoc, ← skoD_step] at G
                      go_roundw
                      case rel => exact ⟨2, A3, k + 1, c3, by omega, by go_num, rfl, G, by omega⟩
                      case measure => simp [intOf]
                    · go_wp2_with fail
                      refine (l11Block_any _ _ _ _ ?_ ?_ ?_).mono ?_
                      · unfold I64; omega
                      · unfold I64; omega
                      · unfold I64; omega
                      rintro e w2 ⟨A2, n2, c2, rfl, ho2, hb2⟩
                      rw [blk_eq (a' := ((a + 2 * x * 2 : Nat) : Int)) (b' := ((y + 2 * x * 2 : Nat) : Int)) (c' := ((skoZ x a y + 2 * x * ((2 + 1) % 3) : Nat) : Int)) (by have := HN.out; omega) (by have := HN.out; omega) (by have := HN.out; have := HZ.out; omega)] at ho2
                      obtain ⟨vs, G⟩ := G.row ho2 hb2
                      have hlw := G.b.size
                      clear ho2 hb2
                      go_wp2_with (at_builtin; refine app_row _ rfl (.tmp 85) (.tmp 104) rfl w.heap.size A k c vs _ rfl G.o (A2, n2, c2) _ G.r G.ap _ rfl (by simp) (Nat.le_trans (Nat.succ_le_succ hk) (by omega)) hlw ?_; intro A3 c3 w3 ho3 hg3 hf3)
                      have G := G.done ho3 hg3
                      clear ho3 hg3 hf3 hlw
                      rw [List.append_assoc, ← skoD_step] at G
                      go_roundw
                      case rel => exact ⟨3, A3, k + 1, c3, by omega, by go_num, rfl, G, by omega⟩
                      case measure => simp [intOf]
                  · obtain rfl : i = 3 := by omega
                    rw [HY.out, List.append_assoc, ← skoE_step] at G
                    go_wp2
                    go_roundw
                    case rel => exact ⟨j + 1, A, k, c, by have := HY.out; omega, by rw [HY.out]; go_num, rfl, G, by omega⟩
                    case measure => have := HY.out; simp [intOf]; omega
            · have hjn : j = 2 * x - a - 1 := by have := HN.out; have := HY.out; omega
              rw [hjn, List.append_assoc, ← skoC_step] at G
              clear hjn
              go_wp2
              go_roundw
              case rel => exact ⟨a + 1, A, k, c, by omega, by go_num, rfl, G, by omega⟩
              case measure => simp [intOf]; omega
        · have han : a = 2 * x := by have := HN.out; omega
          rw [han] at G
          obtain ⟨ho, hb⟩ := G
          clear han
          go_wp2
          go_ret
          exact ⟨_, _, _, rfl, ho, hb⟩
end Go.Proofs.YtdkbcjdimhgmnaaGreat
