/- Squares that a law draws: rows of zeros, copies, cyclic squares, products. No condition beyond those stated. -/
import Derived.Test.YtcnjlkabdfcjdaaZAH
import Derived.Test.YtcnjlkabdfcjdaaZAI
import Derived.Test.YtcnjlkabdfcjdaaZAJ
import Derived.Test.YtcnjlkabdfcjdaaZAB
set_option linter.unusedVariables false
set_option linter.unusedSimpArgs false
namespace Go.Proofs.Ytcnjlkabdfcjdaa
open Go.RowKit

theorem OR.rows_len {w : World} {B : Nat} {e2 e1 : TypeId} {A : Option Addr} {n c : Nat} {zss : List (List Int)} (h : OR w B e2 e1 A n c zss) : zss.length = n := h.len
theorem cells_under {l : List (List Int)} {k : Nat} (h : ∀ r ∈ l, r.length ≤ k) : cells l ≤ l.length * k := by
  induction l with
  | nil => simp [cells]
  | cons r l ih =>
    have h1 := ih fun x hx => h x (List.mem_cons_of_mem _ hx)
    have h2 := h r List.mem_cons_self
    rw [show r :: l = [r] ++ l from rfl, cells_app, cells_one, List.length_append, List.length_singleton, Nat.add_mul]
    omega
theorem replicate_zero {n : Nat} : (ints (List.replicate n 0)) = List.replicate n (.int .i64 0) := by simp [ints]
set_option maxHeartbeats 1000000 in
theorem l06Zero_any (r k : Nat) (w : World) (hr : r ≤ 4096) (hk : k ≤ 4096) :
    Calls Try.prog 104 #[.int .i64 r, .int .i64 k] w (RetR w 30 2 (zerosP r k)) := by
  have ho0 := OR.of_own (e1 := 2) (OS.lit w w.heap.size 30 1 0 #[] (Nat.le_refl _) rfl (by omega)) (by decide)
  have hb0 := below_alloc w (.cells #[] 30)
  have hmk := run_make_row' (P := Try.prog) 30 2 (.int .i64 0) 8 Try.underlying30 int_info rfl .i64 .i64 k (by omega) (by omega)
  go_enter Try.func104, Try.ntmps104
  go_wp2
  go_loopw [5, 6] (fun v i wr => ∃ (j : Nat) (A' : Option Addr) (c' : Nat), i = .int .i64 j ∧ j ≤ r ∧ v = .slice A' j c' ∧ OR wr w.heap.size 30 2 A' j c' (zerosP j k) ∧ Below w.heap.size w wr) (fun _ i _ => r - (intOf i).toNat)
  case atStart => exact ⟨0, _, _, rfl, Nat.zero_le _, rfl, ho0, hb0⟩
  case round =>
    obtain ⟨j, A', c', rfl, hj, rfl, ho, hw⟩ := hrel
    clear ho0 hb0
    by_cases hlt : j < r
    · have hrow := OI.made wr w.heap.size 2 k hw.size (by omega)
      have hb1 := below_alloc wr (.cells (madeCells #[.int .i64 0] k) 2)
      have hw1 := hw.trans (hb1.mono hw.size)
      obtain ⟨vs, hov⟩ := ho
      have hap := hov.apart_new (v := (some ⟨wr.heap.size, 0, none⟩, k, k)) (fun b hb => by simp [blk] at hb; omega)
      have ho1 := hov.below hb1
      clear hov hw hb1
      go_wp2_with (at_builtin; refine app_row _ rfl (.tmp 13) (.tmp 16) rfl w.heap.size A' j c' vs (zerosP j k) rfl ho1 (some ⟨wr.heap.size, 0, none⟩, k, k) (List.replicate k 0) hrow hap _ rfl (by simp) (Nat.le_trans (Nat.succ_le_succ hj) (by omega)) hw1.size ?_; intro A3 c3 w3 ho3 hg3 hn3)
      have hw3 := below_own hw1 hg3 hw1.size (fun b hb => (ho1.os.lt hb).1)
      rw [zerosP_step (Nat.le_refl _)] at ho3
      clear ho1 hap hrow hg3 hn3 hw1
      go_wp2
      go_roundw
      case rel => exact ⟨j + 1, A3, c3, by go_num, by omega, rfl, ⟨_, ho3⟩, hw3⟩
      case measure => simp [intOf]; omega
    · obtain rfl : j = r := by omega
      go_wp2
      go_ret
      exact ⟨_, _, _, rfl, ho, hw⟩
set_option maxHeartbeats 1000000 in
theorem l06Own_any (A : Option Addr) (n c : Nat) (zss : List (List Int)) (w : World) (ha : RR w A n zss) (hn : n ≤ 1099511627776) (hr : cells zss ≤ 1099511627776) :
    Calls Try.prog 90 #[.slice A n c] w (RetR w 30 2 zss) := by
  have hla := Lib.hid ha.len
  have HR := Lib.hid (show ∀ k, k < n → (row zss k).length ≤ 1099511627776 from fun k hk => Nat.le_trans (row_le_cells zss (by rw [hla.out]; exact hk)) hr)
  have ho0 := OR.of_own (e1 := 2) (OS.lit w w.heap.size 30 1 0 #[] (Nat.le_refl _) rfl (by omega)) (by decide)
  have hb0 := below_alloc w (.cells #[] 30)
  go_enter Try.func90, Try.ntmps90
  go_wp2
  go_loopw [3, 4] (fun v i wr => ∃ (j : Nat) (A' : Option Addr) (c' : Nat), i = .int .i64 j ∧ j ≤ n ∧ v = .slice A' j c' ∧ OR wr w.heap.size 30 2 A' j c' (zss.take j) ∧ Below w.heap.size w wr) (fun _ i _ => n - (intOf i).toNat)
  case atStart => exact ⟨0, _, _, rfl, Nat.zero_le _, rfl, ho0, hb0⟩
  case round =>
    obtain ⟨j, A', c', rfl, hj, rfl, ho, hw⟩ := hrel
    clear ho0 hb0
    by_cases hlt : j < n
    · obtain ⟨a, A1, n1, c1, rfl, hcs, hn1, hc1, hrs⟩ := (ha.keep hw).get hlt
      have hl1 : n1 ≤ 1099511627776 := by have := HR.out j hlt; rw [hrs.len] at this; exact this
      go_wp2_with fail
      refine (l00Own_any A1 n1 c1 (row zss j) _ hrs hl1).mono ?_
      rintro e w1 ⟨A2, n2, c2, rfl, ho2, hb2⟩
      have hw1 := hw.trans (hb2.mono hw.size)
      obtain ⟨vs, hov⟩ := ho
      have hap := hov.apart_new (v := (A2, n2, c2)) (fun b hb => (ho2.os.lt hb).1)
      have ho1 := hov.below hb2
      have hr2 := ho2.more hw.size
      clear hov hw ho2 hb2 hcs hrs
      go_wp2_with (at_builtin; refine wpList_app1 _ rfl _ _ 24 rfl 30 (.slice none 0 0) 24 Try.underlying24 ints_info rfl (by omega) w.heap.size A' j c' (vs.map slv) rfl ho1.os (.slice A2 n2 c2) rfl rfl (by omega) hw1.size ?_; intro A3 c3 w3 ho3 hg3 hn3)
      have hw3 := below_own hw1 hg3 hw1.size (fun b hb => (ho1.os.lt hb).1)
      have hi3 := ho1.push (v := (A2, n2, c2)) hr2 hap hg3 ho3
      rw [← take_row (by rw [hla.out]; exact hlt)] at hi3
      clear ho1 hr2 hap ho3 hg3 hn3 hw1
      go_wp2
      go_roundw
      case rel => exact ⟨j + 1, A3, c3, by go_num, by omega, rfl, hi3, hw3⟩
      case measure => simp [intOf]; omega
    · obtain rfl : j = n := by omega
      have ho' : OR wr w.heap.size 30 2 A' j c' zss := by rw [← hla.out] at ho; rw [List.take_length] at ho; rw [hla.out] at ho; exact ho
      clear ho
      go_wp2
      go_ret
      exact ⟨_, _, _, rfl, ho', hw⟩
/-- rows that a call fills: the block of the rows, and what is in them -/
structure FSt (w wr : World) (n : Nat) (A : Option Addr) (c : Nat) (vs : List Sl) (P Q : Nat → Nat → Nat) (f : Nat → Nat → Int) (x y : Nat) : Prop where
  o : ∃ zss, ORv wr w.heap.size 30 2 A n c vs zss ∧ Fil n P Q f zss x y
  b : Below w.heap.size w wr
theorem FSt.put {w wr : World} {n : Nat} {A : Option Addr} {c : Nat} {vs : List Sl} {P Q : Nat → Nat → Nat} {f : Nat → Nat → Int} {x y : Nat} (h : FSt w wr n A c vs P Q f x y) (hx : x < n) (hy : y < n) (hP : ∀ u v, u < n → v < n → P u v < n ∧ Q u v < n)
    (inj : ∀ u v u' v', u < n → v < n → u' < n → v' < n → P u v = P u' v' → Q u v = Q u' v' → u = u' ∧ v = v') (hf : I64 (f x y)) :
    ∃ g r k, A = some ⟨g, 0, none⟩ ∧ wr.cell? ⟨g, P x y, none⟩ = some (.slice (some ⟨r, 0, none⟩) n k) ∧ n ≤ k ∧ k ≤ 9223372036854775807 ∧ (∃ u, wr.cell? ⟨r, Q x y, none⟩ = some u) ∧ wr.frozen? ⟨r, Q x y, none⟩ = false ∧ w.heap.size ≤ r ∧
      FSt w (wr.setCell ⟨r, Q x y, none⟩ (.int .i64 (f x y))) n A c vs P Q f x (y + 1) := by
  obtain ⟨⟨zss, ho, hF⟩, hb⟩ := h
  have hp := hP x y hx hy
  obtain ⟨g, r, m, k, h2⟩ := ho.at2 (i := P x y) (j := Q x y) hp.1 (by rw [hF.rows _ hp.1]; exact hp.2)
  have hm : m = n := by rw [← h2.hm, hF.rows _ hp.1]
  subst hm
  exact ⟨g, r, k, h2.ha, h2.co, h2.mle, h2.k1, ⟨_, h2.ci⟩, h2.fi, h2.br, ⟨_, h2.set _ hf, hF.step hx hy hP inj⟩, Below.setCell hb (p := ⟨r, Q x y, none⟩) h2.br _⟩
theorem FSt.line {w wr : World} {n : Nat} {A : Option Addr} {c : Nat} {vs : List Sl} {P Q : Nat → Nat → Nat} {f : Nat → Nat → Int} {x : Nat} (h : FSt w wr n A c vs P Q f x n) : FSt w wr n A c vs P Q f (x + 1) 0 := by
  obtain ⟨⟨zss, ho, hF⟩, hb⟩ := h
  exact ⟨⟨zss, ho, hF.line⟩, hb⟩
theorem FSt.below {w wr w' : World} {n : Nat} {A : Option Addr} {c : Nat} {vs : List Sl} {P Q : Nat → Nat → Nat} {f : Nat → Nat → Int} {x y : Nat} (h : FSt w wr n A c vs P Q f x y) (hb : Below wr.heap.size wr w') : FSt w w' n A c vs P Q f x y := by
  obtain ⟨⟨zss, ho, hF⟩, h2⟩ := h
  exact ⟨⟨zss, ho.below hb, hF⟩, h2.trans (hb.mono h2.size)⟩
set_option maxHeartbeats 1000000 in
theorem l06Cyclic_any (n : Nat) (w : World) (hn : n ≤ 1024) :
    Calls Try.prog 93 #[.int .i64 n] w (RetR w 30 2 (cycP n)) := by
  go_enter Try.func93, Try.ntmps93
  go_wp2_with fail
  refine (l06Zero_any n n w (by omega) (by omega)).mono ?_
  rintro e w1 ⟨A, n1, c, rfl, ⟨vs, ho⟩, hb⟩
  obtain rfl : n1 = n := by rw [← ho.slen, zerosP_len]
  have HP : Hid (∀ u v, u < n1 → v < n1 → (fun u _ => u : Nat → Nat → Nat) u v < n1 ∧ (fun _ v => v : Nat → Nat → Nat) u v < n1) := Lib.hid fun u v hu hv => ⟨hu, hv⟩
  have HI : Hid (∀ u v u' v', u < n1 → v < n1 → u' < n1 → v' < n1 → (fun u _ => u : Nat → Nat → Nat) u v = (fun u _ => u : Nat → Nat → Nat) u' v' → (fun _ v => v : Nat → Nat → Nat) u v = (fun _ v => v : Nat → Nat → Nat) u' v' → u = u' ∧ v = v') := Lib.hid fun u v u' v' _ _ _ _ e1 e2 => ⟨e1, e2⟩
  have S : FSt w w1 n1 A c vs (fun u _ => u) (fun _ v => v) (fun x y => (((x + y) % n1 : Nat) : Int)) 0 0 := ⟨⟨_, ho, Fil.start _ _ _ _⟩, hb⟩
  clear ho hb
  go_wp2
  go_loopw [4] (fun i wr => ∃ x : Nat, x ≤ n1 ∧ i = .int .i64 x ∧ FSt w wr n1 A c vs (fun u _ => u) (fun _ v => v) (fun x y => (((x + y) % n1 : Nat) : Int)) x 0) (fun i _ => n1 - (intOf i).toNat)
  case atStart => exact ⟨0, Nat.zero_le _, rfl, S⟩
  case round =>
    clear S
    obtain ⟨x, hx, rfl, S⟩ := hrel
    by_cases hlt : x < n1
    · go_wp2
      go_loopw [5] (fun i wr => ∃ y : Nat, y ≤ n1 ∧ i = .int .i64 y ∧ FSt w wr n1 A c vs (fun u _ => u) (fun _ v => v) (fun x y => (((x + y) % n1 : Nat) : Int)) x y) (fun i _ => n1 - (intOf i).toNat)
      case atStart => exact ⟨0, Nat.zero_le _, rfl, S⟩
      case round =>
        clear S
        obtain ⟨y, hy, rfl, S⟩ := hrel
        by_cases hly : y < n1
        · have hmm : (x + y) % n1 < n1 := Nat.mod_lt _ (by omega)
          have q1 : ¬ n1 = 0 := by omega
          have q2 : IntKind.i64.wrap ((x : Int) + y) = (x : Int) + y := IntWalk.i64_in _ (by omega)
          have q3 : ((x : Int) + y).tmod n1 = (((x + y) % n1 : Nat) : Int) := by rw [Int.tmod_eq_emod_of_nonneg (by omega), Int.natCast_emod, Int.natCast_add]
          obtain ⟨g, r, k, rfl, c1, k1, k2, ⟨u, c2⟩, f2, hr, S⟩ := S.put hlt hly HP.out HI.out (by unfold I64; omega)
          have HS := Lib.hid (S.below (below_drewn _ 1))
          clear S
          simp only [← World.drew_is_drewN] at HS
          generalize (((x + y) % n1 : Nat) : Int) = val at *
          go_wp2
          refine region_last (P := Try.prog) (S := (fun w' => w'.cell? ⟨g, x, none⟩ = some (.slice (some ⟨r, 0, none⟩) n1 k))) (by kernel_rfl) (by simp only [List.getLast?_cons_cons, List.getLast?_singleton]; rfl) (by dsimp only [List.dropLast]) (by kernel_rfl) ?_ ?_
          · simpa using c1
          intro hS
          refine wpAnyH_take (i := 0) (v := ?_) rfl (by kernel_rfl) (by kernel_rfl) (by kernel_rfl) (fun _ _ _ h => h) (Or.inl ⟨by rfl, ?_⟩) (by assumption) ?_
          rotate_left
          · (intro w hSw; (try dsimp only at hSw); go_simp; (try with_reducible rfl))
          simp only [Act.put, List.setIfInBounds_toArray, List.set_cons_zero, List.set_cons_succ]
          refine wpAnyH_take (i := 1) (v := ?_) rfl (by kernel_rfl) (by kernel_rfl) (by kernel_rfl) (fun _ _ _ h => h) (Or.inl ⟨by rfl, ?_⟩) (by assumption) ?_
          rotate_left
          · (intro w hSw; (try dsimp only at hSw); go_simp; (try with_reducible rfl))
          simp only [Act.put, List.setIfInBounds_toArray, List.set_cons_zero, List.set_cons_succ]
          refine wpAnyH_take (i := 2) (v := ?_) rfl (by kernel_rfl) (by kernel_rfl) (by kernel_rfl) (fun _ _ _ h => h) (Or.inl ⟨by rfl, ?_⟩) (by assumption) ?_
          rotate_left
          · (intro w hSw; (try dsimp only at hSw); go_simp; (try with_reducible rfl))
          simp only [Act.put, List.setIfInBounds_toArray, List.set_cons_zero, List.set_cons_succ]
          refine wpAnyH_take (i := 3) (v := ?_) rfl (by kernel_rfl) (by kernel_rfl) (by kernel_rfl) (fun _ _ _ h => h) (Or.inl ⟨by rfl, ?_⟩) (by assumption) ?_
          rotate_left
          · (intro w hSw; (try dsimp only at hSw); go_simp; (try with_reducible rfl))
          simp only [Act.put, List.setIfInBounds_toArray, List.set_cons_zero, List.set_cons_succ]
          refine wpAnyH_take (i := 4) (v := ?_) rfl (by kernel_rfl) (by kernel_rfl) (by kernel_rfl) (fun _ _ _ h => h) (Or.inl ⟨by rfl, ?_⟩) (by assumption) ?_
          rotate_left
          · (intro w hSw; (try dsimp only at hSw); go_simp; (try with_reducible rfl))
          simp only [Act.put, List.setIfInBounds_toArray, List.set_cons_zero, List.set_cons_succ]
          refine wpAnyH_take (i := 5) (v := ?_) rfl (by kernel_rfl) (by kernel_rfl) (by kernel_rfl) (fun _ _ _ h => h) (Or.inl ⟨by rfl, ?_⟩) (by assumption) ?_
          rotate_left
          · (intro w hSw; (try dsimp only at hSw); go_simp; (try with_reducible rfl))
          simp only [Act.put, List.setIfInBounds_toArray, List.set_cons_zero, List.set_cons_succ]
          refine wpAnyH_take (i := 6) (v := ?_) rfl (by kernel_rfl) (by kernel_rfl) (by kernel_rfl) (fun _ _ _ h => h) (Or.inl ⟨by rfl, ?_⟩) (by assumption) ?_
          rotate_left
          · (intro w hSw; (try dsimp only at hSw); go_simp; (try with_reducible rfl))
          simp only [Act.put, List.setIfInBounds_toArray, List.set_cons_zero, List.set_cons_succ]
          refine wpAnyH_take (i := 7) (v := ?_) rfl (by kernel_rfl) (by kernel_rfl) (by kernel_rfl) (fun _ _ _ h => h) (Or.inl ⟨by rfl, ?_⟩) (by assumption) ?_
          rotate_left
          · (intro w hSw; (try dsimp only at hSw); go_simp; (try with_reducible rfl))
          simp only [Act.put, List.setIfInBounds_toArray, List.set_cons_zero, List.set_cons_succ]
          refine wpAnyH_take (i := 8) (v := ?_) rfl (by kernel_rfl) (by kernel_rfl) (by kernel_rfl) (fun _ _ _ h => h) (Or.inl ⟨by rfl, ?_⟩) (by assumption) ?_
          rotate_left
          · (intro w hSw; (try dsimp only at hSw); go_simp; (try with_reducible rfl))
          simp only [Act.put, List.setIfInBounds_toArray, List.set_cons_zero, List.set_cons_succ]
          refine wpAnyH_take (i := 9) (v := ?_) rfl (by kernel_rfl) (by kernel_rfl) (by kernel_rfl) (fun _ _ _ h => h) (Or.inl ⟨by rfl, ?_⟩) (by assumption) ?_
          rotate_left
          · (intro w hSw; (try dsimp only at hSw); go_simp; (try with_reducible rfl))
          simp only [Act.put, List.setIfInBounds_toArray, List.set_cons_zero, List.set_cons_succ]
          refine wpAnyH_take (i := 10) (v := ?_) rfl (by kernel_rfl) (by kernel_rfl) (by kernel_rfl) (fun _ _ _ h => h) (Or.inl ⟨by rfl, ?_⟩) (by assumption) ?_
          rotate_left
          · (intro w hSw; (try dsimp only at hSw); go_simp; (try with_reducible rfl))
          simp only [Act.put, List.setIfInBounds_toArray, List.set_cons_zero, List.set_cons_succ]
          refine wpAnyH_done (by kernel_rfl) ?_ _
          dsimp only [atEnd]
          clear hS
          go_wp2
          go_roundw
          case rel => exact ⟨y + 1, by omega, by go_num, HS.out⟩
          case measure => simp [intOf]; omega
        · obtain rfl : y = n1 := by omega
          have S := S.line
          go_wp2
          go_roundw
          case rel => exact ⟨x + 1, by omega, by go_num, S⟩
          case measure => simp [intOf]; omega
    · obtain rfl : x = n1 := by omega
      obtain ⟨⟨zss, ho, hF⟩, hb⟩ := S
      obtain rfl := hF.tab
      go_wp2
      go_ret
      exact ⟨_, _, _, rfl, ⟨vs, ho⟩, hb⟩
end Go.Proofs.Ytcnjlkabdfcjdaa
/- Plain arithmetic of polynomials modulo a number: sums, the linear form of a list, division by a monic polynomial. No condition beyond those stated. -/
namespace Go.Proofs.Ytcnjlkabdfcjdaa
open Go.RowKit

/-- a finite sum -/
def sumN : Nat → (Nat → Int) → Int
  | 0, _ => 0
  | n + 1, f => sumN n f + f n
theorem sumN_congr {n : Nat} {f g : Nat → Int} (h : ∀ i, i < n → f i = g i) : sumN n f = sumN n g := by
  induction n with
  | zero => rfl
  | succ n ih => rw [sumN, sumN, ih fun i hi => h i (by omega), h n (by omega)]
theorem sumN_zero {n : Nat} {f : Nat → Int} (h : ∀ i, i < n → f i = 0) : sumN n f = 0 := by
  induction n with
  | zero => rfl
  | succ n ih => rw [sumN, ih fun i hi => h i (by omega), h n (by omega)]; rfl
theorem sumN_add (n : Nat) (f g : Nat → Int) : sumN n (fun i => f i + g i) = sumN n f + sumN n g := by
  induction n with
  | zero => rfl
  | succ n ih => rw [sumN, sumN, sumN, ih]; omega
theorem sumN_mul (n : Nat) (c : Int) (f : Nat → Int) : sumN n (fun i => c * f i) = c * sumN n f := by
  induction n with
  | zero => simp [sumN]
  | succ n ih => rw [sumN, sumN, ih, Int.mul_add]
theorem sumN_sub (n : Nat) (f g : Nat → Int) : sumN n (fun i => f i - g i) = sumN n f - sumN n g := by
  induction n with
  | zero => rfl
  | succ n ih => rw [sumN, sumN, sumN, ih]; omega
theorem sumN_swap (n m : Nat) (f : Nat → Nat → Int) : sumN n (fun i => sumN m (f i)) = sumN m (fun j => sumN n fun i => f i j) := by
  induction n with
  | zero => rw [sumN]; exact (sumN_zero fun _ _ => rfl).symm
  | succ n ih =>
    rw [sumN, ih, ← sumN_add]
    exact sumN_congr fun j _ => rfl
theorem sumN_more {n m : Nat} (h : n ≤ m) {f : Nat → Int} (hz : ∀ i, n ≤ i → i < m → f i = 0) : sumN m f = sumN n f := by
  induction m with
  | zero => obtain rfl : n = 0 := by omega
            rfl
  | succ m ih =>
    by_cases e : n = m + 1
    · rw [e]
    · rw [sumN, hz m (by omega) (by omega), ih (by omega) fun i h1 h2 => hz i h1 (by omega), Int.add_zero]
theorem sumN_one {n k : Nat} (hk : k < n) {f : Nat → Int} (h : ∀ i, i < n → i ≠ k → f i = 0) : sumN n f = f k := by
  induction n with
  | zero => omega
  | succ n ih =>
    by_cases e : k = n
    · subst e
      rw [sumN, sumN_zero fun i hi => h i (by omega) (by omega), Int.zero_add]
    · rw [sumN, ih (by omega) fun i hi => h i (by omega), h n (by omega) (by omega), Int.add_zero]
theorem sumN_at {n k : Nat} (hk : k < n) (c : Int) : sumN n (fun t => if t = k then c else 0) = c := by
  rw [sumN_one hk (fun t _ e => if_neg e), if_pos rfl]
/-- two numbers leave the same rest -/
def Cg (p a b : Int) : Prop := ∃ t : Int, a = b + p * t
theorem Cg.rfl_ (p a : Int) : Cg p a a := ⟨0, by omega⟩
theorem Cg.of_eq {p a b : Int} (h : a = b) : Cg p a b := h ▸ Cg.rfl_ p a
theorem Cg.symm {p a b : Int} (h : Cg p a b) : Cg p b a := by
  obtain ⟨t, rfl⟩ := h
  exact ⟨-t, by rw [Int.mul_neg]; omega⟩
theorem Cg.trans {p a b c : Int} (h : Cg p a b) (k : Cg p b c) : Cg p a c := by
  obtain ⟨t, rfl⟩ := h
  obtain ⟨u, rfl⟩ := k
  exact ⟨u + t, by rw [Int.mul_add]; omega⟩
theorem Cg.add {p a b c d : Int} (h : Cg p a b) (k : Cg p c d) : Cg p (a + c) (b + d) := by
  obtain ⟨t, rfl⟩ := h
  obtain ⟨u, rfl⟩ := k
  exact ⟨t + u, by rw [Int.mul_add]; omega⟩
theorem Cg.mul_left {p a b : Int} (h : Cg p a b) (c : Int) : Cg p (c * a) (c * b) := by
  obtain ⟨t, rfl⟩ := h
  exact ⟨c * t, by rw [Int.mul_add, Int.mul_left_comm]⟩
theorem Cg.mul_right {p a b : Int} (h : Cg p a b) (c : Int) : Cg p (a * c) (b * c) := by
  rw [Int.mul_comm a, Int.mul_comm b]; exact h.mul_left c
theorem Cg.neg {p a b : Int} (h : Cg p a b) : Cg p (-a) (-b) := by
  have := h.mul_left (-1)
  simpa using this
theorem Cg.sub {p a b c d : Int} (h : Cg p a b) (k : Cg p c d) : Cg p (a - c) (b - d) := by
  have := h.add k.neg
  simpa [Int.sub_eq_add_neg] using this
theorem Cg.mod (p a : Int) : Cg p (a % p) a := ⟨-(a / p), by rw [Int.mul_neg]; have := Int.mul_ediv_add_emod a p; omega⟩
theorem Cg.iff {p a b : Int} : Cg p a b ↔ a % p = b % p := by
  constructor
  · rintro ⟨t, rfl⟩
    exact Int.add_mul_emod_self_left b p t
  · intro h
    exact (Cg.mod p a).symm.trans ((Cg.of_eq h).trans (Cg.mod p b))
theorem Cg.eq {p a b : Int} (h : Cg p a b) (ha : 0 ≤ a) (ha2 : a < p) (hb : 0 ≤ b) (hb2 : b < p) : a = b := by
  have := Cg.iff.1 h
  rwa [Int.emod_eq_of_lt ha ha2, Int.emod_eq_of_lt hb hb2] at this
theorem Cg.sum {p : Int} {n : Nat} {f g : Nat → Int} (h : ∀ i, i < n → Cg p (f i) (g i)) : Cg p (sumN n f) (sumN n g) := by
  induction n with
  | zero => exact Cg.rfl_ _ _
  | succ n ih => rw [sumN, sumN]; exact (ih fun i hi => h i (by omega)).add (h n (by omega))
/-- the linear form of a list -/
def linF (u : List Int) (ψ : Nat → Int) : Int := sumN u.length fun t => nth u t * ψ t
theorem nth_beyond {u : List Int} {t : Nat} (h : u.length ≤ t) : nth u t = 0 := by simp [nth, List.getD, List.getElem?_eq_none h]
theorem linF_more {u : List Int} {n : Nat} (h : u.length ≤ n) (ψ : Nat → Int) : sumN n (fun t => nth u t * ψ t) = linF u ψ :=
  sumN_more h fun i hi _ => by rw [nth_beyond hi, Int.zero_mul]
theorem nth_setI {u : List Int} {j t : Nat} {x : Int} (hj : j < u.length) : nth (u.set j x) t = if t = j then x else nth u t := by
  unfold nth
  simp only [List.getD, List.getElem?_set]
  by_cases e : t = j
  · subst e; simp [hj]
  · rw [if_neg (fun h => e h.symm), if_neg e]
/-- one round of a division, up to its j-th place -/
def stepTo (p : Int) (by_ : List Int) (c : Int) (o : Nat) (u : List Int) : Nat → List Int
  | 0 => u
  | j + 1 => (stepTo p by_ c o u j).set (o + j) ((nth (stepTo p by_ c o u j) (o + j) + (p - c) * nth by_ j) % p)
theorem stepTo_len (p : Int) (by_ : List Int) (c : Int) (o : Nat) (u : List Int) (j : Nat) : (stepTo p by_ c o u j).length = u.length := by
  induction j with
  | zero => rfl
  | succ j ih => rw [stepTo, List.length_set, ih]
theorem stepTo_nth (p : Int) (by_ : List Int) (c : Int) (o : Nat) (u : List Int) (j : Nat) (hj : o + j ≤ u.length) (t : Nat) :
    nth (stepTo p by_ c o u j) t = if o ≤ t ∧ t < o + j then (nth u t + (p - c) * nth by_ (t - o)) % p else nth u t := by
  induction j with
  | zero => rw [stepTo, if_neg (by omega)]
  | succ j ih =>
    rw [stepTo, nth_setI (by rw [stepTo_len]; omega)]
    by_cases e : t = o + j
    · subst e
      rw [if_pos rfl, if_pos (by omega), ih (by omega), if_neg (by omega), show o + j - o = j from by omega]
    · rw [if_neg e, ih (by omega)]
      by_cases h : o ≤ t ∧ t < o + j
      · rw [if_pos h, if_pos (by omega)]
      · rw [if_neg h, if_neg (by omega)]
/-- the numbers of a list lie below p -/
def Dg (p : Int) (u : List Int) : Prop := ∀ t, 0 ≤ nth u t ∧ nth u t < p
theorem Dg.of {p : Int} (h0 : 0 < p) {u : List Int} (h : ∀ t, t < u.length → 0 ≤ nth u t ∧ nth u t < p) : Dg p u := fun t => by
  by_cases ht : t < u.length
  · exact h t ht
  · rw [nth_beyond (by omega)]; omega
theorem stepTo_dg {p : Int} (h0 : 0 < p) {by_ : List Int} {c : Int} {o : Nat} {u : List Int} (h : Dg p u) {j : Nat} (hj : o + j ≤ u.length) : Dg p (stepTo p by_ c o u j) := fun t => by
  rw [stepTo_nth p by_ c o u j hj]
  split
  · exact ⟨Int.emod_nonneg _ (by omega), Int.emod_lt_of_pos _ h0⟩
  · exact h t
/-- what a round does to a linear form -/
theorem stepTo_lin {p : Int} (by_ : List Int) (c : Int) (o : Nat) (u : List Int) {j : Nat} (hj : o + j ≤ u.length) (ψ : Nat → Int) :
    Cg p (linF (stepTo p by_ c o u j) ψ + c * sumN j (fun t => nth by_ t * ψ (o + t))) (linF u ψ) := by
  induction j with
  | zero => exact Cg.of_eq (by rw [stepTo, sumN]; omega)
  | succ j ih =>
    refine Cg.trans ?_ (ih (by omega))
    have hl : o + j < (stepTo p by_ c o u j).length := by rw [stepTo_len]; omega
    -- only place o + j changes
    have key : Cg p (linF (stepTo p by_ c o u (j + 1)) ψ) (linF (stepTo p by_ c o u j) ψ - c * (nth by_ j * ψ (o + j))) := by
      have e : linF (stepTo p by_ c o u (j + 1)) ψ = linF (stepTo p by_ c o u j) ψ + ((nth (stepTo p by_ c o u j) (o + j) + (p - c) * nth by_ j) % p - nth (stepTo p by_ c o u j) (o + j)) * ψ (o + j) := by
        unfold linF
        rw [stepTo, List.length_set]
        have h1 : ∀ t, nth ((stepTo p by_ c o u j).set (o + j) ((nth (stepTo p by_ c o u j) (o + j) + (p - c) * nth by_ j) % p)) t * ψ t = nth (stepTo p by_ c o u j) t * ψ t + (if t = o + j then ((nth (stepTo p by_ c o u j) (o + j) + (p - c) * nth by_ j) % p - nth (stepTo p by_ c o u j) (o + j)) * ψ (o + j) else 0) := fun t => by
          rw [nth_setI hl]
          by_cases e : t = o + j
          · subst e; rw [if_pos rfl, if_pos rfl]; exact (show ∀ X y z : Int, X * z = y * z + (X - y) * z from fun X y z => by rw [Int.sub_mul]; omega) _ _ _
          · rw [if_neg e, if_neg e, Int.add_zero]
        rw [sumN_congr fun t _ => h1 t, sumN_add, sumN_at hl]
      rw [e]
      have m : Cg p ((nth (stepTo p by_ c o u j) (o + j) + (p - c) * nth by_ j) % p - nth (stepTo p by_ c o u j) (o + j)) (-(c * nth by_ j)) := by
        refine ((Cg.mod p _).sub (Cg.rfl_ p _)).trans ⟨nth by_ j, ?_⟩
        rw [Int.sub_mul]; omega
      refine ((Cg.rfl_ p _).add (m.mul_right (ψ (o + j)))).trans (Cg.of_eq ?_)
      rw [Int.neg_mul, Int.mul_assoc]; omega
    have : sumN (j + 1) (fun t => nth by_ t * ψ (o + t)) = sumN j (fun t => nth by_ t * ψ (o + t)) + nth by_ j * ψ (o + j) := rfl
    rw [this, Int.mul_add]
    refine (key.add (Cg.rfl_ p _)).trans (Cg.of_eq ?_)
    omega
/-- a division by a monic polynomial of degree d: r rounds -/
def remTo (p : Int) (by_ : List Int) (u : List Int) : Nat → List Int
  | 0 => u
  | r + 1 => stepTo p by_ (nth (remTo p by_ u r) (u.length - 1 - r)) (u.length - 1 - r - (by_.length - 1)) (remTo p by_ u r) by_.length
theorem remTo_len (p : Int) (by_ u : List Int) (r : Nat) : (remTo p by_ u r).length = u.length := by
  induction r with
  | zero => rfl
  | succ r ih => rw [remTo, stepTo_len, ih]
/-- the rest of a division by a monic polynomial -/
def remP (p : Int) (by_ u : List Int) : List Int := (remTo p by_ u (u.length - (by_.length - 1))).take (by_.length - 1)
theorem nth_takeI {u : List Int} {k t : Nat} : nth (u.take k) t = if t < k then nth u t else 0 := by
  unfold nth
  simp only [List.getD, List.getElem?_take]
  split <;> simp
theorem linF_take {u : List Int} {d : Nat} (h : ∀ t, d ≤ t → t < u.length → nth u t = 0) (ψ : Nat → Int) : linF (u.take d) ψ = linF u ψ := by
  rw [← linF_more (u := u.take d) (n := u.length) (by rw [List.length_take]; omega)]
  refine sumN_congr fun t ht => ?_
  rw [nth_takeI]
  by_cases e : t < d
  · rw [if_pos e]
  · rw [if_neg e, h t (by omega) ht]
section
variable {p : Int} (h0 : 0 < p) {by_ u : List Int} (hby : 0 < by_.length) (hl : nth by_ (by_.length - 1) = 1)
include h0 hby hl
/-- r rounds of the division: digits, zeros on top, and a quotient -/
theorem remTo_inv (hu : Dg p u) : ∀ r, r ≤ u.length - (by_.length - 1) → Dg p (remTo p by_ u r) ∧ (∀ t, u.length - r ≤ t → t < u.length → nth (remTo p by_ u r) t = 0) ∧
    ∃ q : Nat → Int, (∀ o, u.length - (by_.length - 1) - r ≤ o → 0 ≤ q o ∧ q o < p) ∧ (0 < r → q (u.length - by_.length) = nth u (u.length - 1)) ∧ ∀ ψ : Nat → Int,
      Cg p (linF (remTo p by_ u r) ψ + sumN r (fun j => q (u.length - by_.length - j) * sumN by_.length (fun t => nth by_ t * ψ (u.length - by_.length - j + t)))) (linF u ψ) := by
  intro r
  induction r with
  | zero => exact fun _ => ⟨hu, fun t h1 h2 => by omega, fun _ => 0, fun _ _ => ⟨Int.le_refl 0, h0⟩, fun h => by omega, fun ψ => Cg.of_eq (by rw [remTo, sumN]; omega)⟩
  | succ r ih =>
    intro hr
    obtain ⟨d1, z1, q, q1, q2, q3⟩ := ih (by omega)
    have ho : u.length - 1 - r - (by_.length - 1) = u.length - by_.length - r := by omega
    have hob : u.length - 1 - r - (by_.length - 1) + by_.length ≤ (remTo p by_ u r).length := by rw [remTo_len]; omega
    refine ⟨?_, ?_, fun o => if o = u.length - by_.length - r then nth (remTo p by_ u r) (u.length - 1 - r) else q o, ?_, ?_, ?_⟩
    · rw [remTo]; exact stepTo_dg h0 d1 hob
    · intro t h1 h2
      rw [remTo, stepTo_nth _ _ _ _ _ _ hob]
      by_cases e : t = u.length - 1 - r
      · subst e
        rw [if_pos (by omega), show u.length - 1 - r - (u.length - 1 - r - (by_.length - 1)) = by_.length - 1 from by omega, hl, Int.mul_one, show ∀ a : Int, a + (p - a) = p from fun a => by omega, Int.emod_self]
      · rw [if_neg (by omega)]
        exact z1 t (by omega) h2
    · intro o h1
      dsimp only
      split
      · exact d1 _
      · exact q1 o (by omega)
    · intro _
      dsimp only
      by_cases e : r = 0
      · subst e
        rw [if_pos (by omega)]
        show nth (remTo p by_ u 0) _ = _
        rw [remTo]; rfl
      · rw [if_neg (by omega)]
        exact q2 (by omega)
    · intro ψ
      have k1 := stepTo_lin (p := p) by_ (nth (remTo p by_ u r) (u.length - 1 - r)) (u.length - 1 - r - (by_.length - 1)) (remTo p by_ u r) hob ψ
      rw [remTo, sumN]
      dsimp only
      rw [if_pos rfl]
      have k2 : sumN r (fun j => (if u.length - by_.length - j = u.length - by_.length - r then nth (remTo p by_ u r) (u.length - 1 - r) else q (u.length - by_.length - j)) * sumN by_.length (fun t => nth by_ t * ψ (u.length - by_.length - j + t))) =
          sumN r (fun j => q (u.length - by_.length - j) * sumN by_.length (fun t => nth by_ t * ψ (u.length - by_.length - j + t))) := sumN_congr fun j hj => by rw [if_neg (by omega)]
      rw [k2]
      refine Cg.trans ?_ (q3 ψ)
      rw [ho] at k1 ⊢
      have k3 := k1.add (Cg.rfl_ p (sumN r (fun j => q (u.length - by_.length - j) * sumN by_.length (fun t => nth by_ t * ψ (u.length - by_.length - j + t)))))
      refine Cg.trans (Cg.of_eq ?_) k3
      omega
end
end Go.Proofs.Ytcnjlkabdfcjdaa
