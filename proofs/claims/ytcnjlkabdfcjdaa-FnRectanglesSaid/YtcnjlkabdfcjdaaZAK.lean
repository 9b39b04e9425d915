/- Squares that a law draws: rows of zeros, copies, cyclic squares, products. No condition beyond those stated. -/
import Derived.Test.YtcnjlkabdfcjdaaZAH
import Derived.Test.YtcnjlkabdfcjdaaZAI
import Derived.Test.YtcnjlkabdfcjdaaZAJ
import Derived.Test.YtcnjlkabdfcjdaaZAA
set_option linter.unusedVariables false
set_option linter.unusedSimpArgs false
namespace Go.Proofs.Ytcnjlkabdfcjdaa
open Go.RowKit

theorem OR.rows_len {w : World} {B : Nat} {e2 e1 : TypeId} {A : Option Addr} {n c : Nat} {zss : List (List Int)} (h : OR w B e2 e1 A n c zss) : zss.length = n := h.len
theorem cells_under {l : List (List Int)} {k : Nat} (h : ∀ r ∈ l, r.length ≤ k) : cells l ≤ l.length * k := by
  induction l with
  | nil => simp [cells]
  | cons r l ih =>
    have h1 := ih fun x hx => h x (List.mem_cons_of_mem _ hx)
    have h2 := h r List.mem_cons_self
    rw [show r :: l = [r] ++ l from rfl, cells_app, cells_one, List.length_append, List.length_singleton, Nat.add_mul]
    omega
theorem replicate_zero {n : Nat} : (ints (List.replicate n 0)) = List.replicate n (.int .i64 0) := by simp [ints]
set_option maxHeartbeats 1000000 in
theorem l06Zero_any (r k : Nat) (w : World) (hr : r ≤ 4096) (hk : k ≤ 4096) :
    Calls Try.prog 104 #[.int .i64 r, .int .i64 k] w (RetR w 30 2 (zerosP r k)) := by
  have ho0 := OR.of_own (e1 := 2) (OS.lit w w.heap.size 30 1 0 #[] (Nat.le_refl _) rfl (by omega)) (by decide)
  have hb0 := below_alloc w (.cells #[] 30)
  have hmk := run_make_row' (P := Try.prog) 30 2 (.int .i64 0) 8 Try.underlying30 int_info rfl .i64 .i64 k (by omega) (by omega)
  go_enter Try.func104, Try.ntmps104
  go_wp2
  go_loopw [5, 6] (fun v i wr => ∃ (j : Nat) (A' : Option Addr) (c' : Nat), i = .int .i64 j ∧ j ≤ r ∧ v = .slice A' j c' ∧ OR wr w.heap.size 30 2 A' j c' (zerosP j k) ∧ Below w.heap.size w wr) (fun _ i _ => r - (intOf i).toNat)
  case atStart => exact ⟨0, _, _, rfl, Nat.zero_le _, rfl, ho0, hb0⟩
  case round =>
    obtain ⟨j, A', c', rfl, hj, rfl, ho, hw⟩ := hrel
    clear ho0 hb0
    by_cases hlt : j < r
    · have hrow := OI.made wr w.heap.size 2 k hw.size (by omega)
      have hb1 := below_alloc wr (.cells (madeCells #[.int .i64 0] k) 2)
      have hw1 := hw.trans (hb1.mono hw.size)
      obtain ⟨vs, hov⟩ := ho
      have hap := hov.apart_new (v := (some ⟨wr.heap.size, 0, none⟩, k, k)) (fun b hb => by simp [blk] at hb; omega)
      have ho1 := hov.below hb1
      clear hov hw hb1
      go_wp2_with (at_builtin; refine app_row _ rfl (.tmp 13) (.tmp 16) rfl w.heap.size A' j c' vs (zerosP j k) rfl ho1 (some ⟨wr.heap.size, 0, none⟩, k, k) (List.replicate k 0) hrow hap _ rfl (by simp) (Nat.le_trans (Nat.succ_le_succ hj) (by omega)) hw1.size ?_; intro A3 c3 w3 ho3 hg3 hn3)
      have hw3 := below_own hw1 hg3 hw1.size (fun b hb => (ho1.os.lt hb).1)
      rw [zerosP_step (Nat.le_refl _)] at ho3
      clear ho1 hap hrow hg3 hn3 hw1
      go_wp2
      go_roundw
      case rel => exact ⟨j + 1, A3, c3, by go_num, by omega, rfl, ⟨_, ho3⟩, hw3⟩
      case measure => simp [intOf]; omega
    · obtain rfl : j = r := by omega
      go_wp2
      go_ret
      exact ⟨_, _, _, rfl, ho, hw⟩
set_option maxHeartbeats 1000000 in
theorem l06Own_any (A : Option Addr) (n c : Nat) (zss : List (List Int)) (w : World) (ha : RR w A n zss) (hn : n ≤ 1099511627776) (hr : cells zss ≤ 1099511627776) :
    Calls Try.prog 90 #[.slice A n c] w (RetR w 30 2 zss) := by
  have hla := Lib.hid ha.len
  have HR := Lib.hid (show ∀ k, k < n → (row zss k).length ≤ 1099511627776 from fun k hk => Nat.le_trans (row_le_cells zss (by rw [hla.out]; exact hk)) hr)
  have ho0 := OR.of_own (e1 := 2) (OS.lit w w.heap.size 30 1 0 #[] (Nat.le_refl _) rfl (by omega)) (by decide)
  have hb0 := below_alloc w (.cells #[] 30)
  go_enter Try.func90, Try.ntmps90
  go_wp2
  go_loopw [3, 4] (fun v i wr => ∃ (j : Nat) (A' : Option Addr) (c' : Nat), i = .int .i64 j ∧ j ≤ n ∧ v = .slice A' j c' ∧ OR wr w.heap.size 30 2 A' j c' (zss.take j) ∧ Below w.heap.size w wr) (fun _ i _ => n - (intOf i).toNat)
  case atStart => exact ⟨0, _, _, rfl, Nat.zero_le _, rfl, ho0, hb0⟩
  case round =>
    obtain ⟨j, A', c', rfl, hj, rfl, ho, hw⟩ := hrel
    clear ho0 hb0
    by_cases hlt : j < n
    · obtain ⟨a, A1, n1, c1, rfl, hcs, hn1, hc1, hrs⟩ := (ha.keep hw).get hlt
      have hl1 : n1 ≤ 1099511627776 := by have := HR.out j hlt; rw [hrs.len] at this; exact this
      go_wp2_with fail
      refine (l00Own_any A1 n1 c1 (row zss j) _ hrs hl1).mono ?_
      rintro e w1 ⟨A2, n2, c2, rfl, ho2, hb2⟩
      have hw1 := hw.trans (hb2.mono hw.size)
      obtain ⟨vs, hov⟩ := ho
      have hap := hov.apart_new (v := (A2, n2, c2)) (fun b hb => (ho2.os.lt hb).1)
      have ho1 := hov.below hb2
      have hr2 := ho2.more hw.size
      clear hov hw ho2 hb2 hcs hrs
      go_wp2_with (at_builtin; refine wpList_app1 _ rfl _ _ 24 rfl 30 (.slice none 0 0) 24 Try.underlying24 ints_info rfl (by omega) w.heap.size A' j c' (vs.map slv) rfl ho1.os (.slice A2 n2 c2) rfl rfl (by omega) hw1.size ?_; intro A3 c3 w3 ho3 hg3 hn3)
      have hw3 := below_own hw1 hg3 hw1.size (fun b hb => (ho1.os.lt hb).1)
      have hi3 := ho1.push (v := (A2, n2, c2)) hr2 hap hg3 ho3
      rw [← take_row (by rw [hla.out]; exact hlt)] at hi3
      clear ho1 hr2 hap ho3 hg3 hn3 hw1
      go_wp2
      go_roundw
      case rel => exact ⟨j + 1, A3, c3, by go_num, by omega, rfl, hi3, hw3⟩
      case measure => simp [intOf]; omega
    · obtain rfl : j = n := by omega
      have ho' : OR wr w.heap.size 30 2 A' j c' zss := by rw [← hla.out] at ho; rw [List.take_length] at ho; rw [hla.out] at ho; exact ho
      clear ho
      go_wp2
      go_ret
      exact ⟨_, _, _, rfl, ho', hw⟩
/-- rows that a call fills: the block of the rows, and what is in them -/
structure FSt (w wr : World) (n : Nat) (A : Option Addr) (c : Nat) (vs : List Sl) (P Q : Nat → Nat → Nat) (f : Nat → Nat → Int) (x y : Nat) : Prop where
  o : ∃ zss, ORv wr w.heap.size 30 2 A n c vs zss ∧ Fil n P Q f zss x y
  b : Below w.heap.size w wr
theorem FSt.put {w wr : World} {n : Nat} {A : Option Addr} {c : Nat} {vs : List Sl} {P Q : Nat → Nat → Nat} {f : Nat → Nat → Int} {x y : Nat} (h : FSt w wr n A c vs P Q f x y) (hx : x < n) (hy : y < n) (hP : ∀ u v, u < n → v < n → P u v < n ∧ Q u v < n)
    (inj : ∀ u v u' v', u < n → v < n → u' < n → v' < n → P u v = P u' v' → Q u v = Q u' v' → u = u' ∧ v = v') (hf : I64 (f x y)) :
    ∃ g r k, A = some ⟨g, 0, none⟩ ∧ wr.cell? ⟨g, P x y, none⟩ = some (.slice (some ⟨r, 0, none⟩) n k) ∧ n ≤ k ∧ k ≤ 9223372036854775807 ∧ (∃ u, wr.cell? ⟨r, Q x y, none⟩ = some u) ∧ wr.frozen? ⟨r, Q x y, none⟩ = false ∧ w.heap.size ≤ r ∧
      FSt w (wr.setCell ⟨r, Q x y, none⟩ (.int .i64 (f x y))) n A c vs P Q f x (y + 1) := by
  obtain ⟨⟨zss, ho, hF⟩, hb⟩ := h
  have hp := hP x y hx hy
  obtain ⟨g, r, m, k, h2⟩ := ho.at2 (i := P x y) (j := Q x y) hp.1 (by rw [hF.rows _ hp.1]; exact hp.2)
  have hm : m = n := by rw [← h2.hm, hF.rows _ hp.1]
  subst hm
  exact ⟨g, r, k, h2.ha, h2.co, h2.mle, h2.k1, ⟨_, h2.ci⟩, h2.fi, h2.br, ⟨_, h2.set _ hf, hF.step hx hy hP inj⟩, Below.setCell hb (p := ⟨r, Q x y, none⟩) h2.br _⟩
theorem FSt.line {w wr : World} {n : Nat} {A : Option Addr} {c : Nat} {vs : List Sl} {P Q : Nat → Nat → Nat} {f : Nat → Nat → Int} {x : Nat} (h : FSt w wr n A c vs P Q f x n) : FSt w wr n A c vs P Q f (x + 1) 0 := by
  obtain ⟨⟨zss, ho, hF⟩, hb⟩ := h
  exact ⟨⟨zss, ho, hF.line⟩, hb⟩
theorem FSt.below {w wr w' : World} {n : Nat} {A : Option Addr} {c : Nat} {vs : List Sl} {P Q : Nat → Nat → Nat} {f : Nat → Nat → Int} {x y : Nat} (h : FSt w wr n A c vs P Q f x y) (hb : Below wr.heap.size wr w') : FSt w w' n A c vs P Q f x y := by
  obtain ⟨⟨zss, ho, hF⟩, h2⟩ := h
  exact ⟨⟨zss, ho.below hb, hF⟩, h2.trans (hb.mono h2.size)⟩
set_option maxHeartbeats 1000000 in
theorem l06Cyclic_any (n : Nat) (w : World) (hn : n ≤ 1024) :
    Calls Try.prog 93 #[.int .i64 n] w (RetR w 30 2 (cycP n)) := by
  go_enter Try.func93, Try.ntmps93
  go_wp2_with fail
  refine (l06Zero_any n n w (by omega) (by omega)).mono ?_
  rintro e w1 ⟨A, n1, c, rfl, ⟨vs, ho⟩, hb⟩
  obtain rfl : n1 = n := by rw [← ho.slen, zerosP_len]
  have HP : Hid (∀ u v, u < n1 → v < n1 → (fun u _ => u : Nat → Nat → Nat) u v < n1 ∧ (fun _ v => v : Nat → Nat → Nat) u v < n1) := Lib.hid fun u v hu hv => ⟨hu, hv⟩
  have HI : Hid (∀ u v u' v', u < n1 → v < n1 → u' < n1 → v' < n1 → (fun u _ => u : Nat → Nat → Nat) u v = (fun u _ => u : Nat → Nat → Nat) u' v' → (fun _ v => v : Nat → Nat → Nat) u v = (fun _ v => v : Nat → Nat → Nat) u' v' → u = u' ∧ v = v') := Lib.hid fun u v u' v' _ _ _ _ e1 e2 => ⟨e1, e2⟩
  have S : FSt w w1 n1 A c vs (fun u _ => u) (fun _ v => v) (fun x y => (((x + y) % n1 : Nat) : Int)) 0 0 := ⟨⟨_, ho, Fil.start _ _ _ _⟩, hb⟩
  clear ho hb
  go_wp2
  go_loopw [4] (fun i wr => ∃ x : Nat, x ≤ n1 ∧ i = .int .i64 x ∧ FSt w wr n1 A c vs (fun u _ => u) (fun _ v => v) (fun x y => (((x + y) % n1 : Nat) : Int)) x 0) (fun i _ => n1 - (intOf i).toNat)
  case atStart => exact ⟨0, Nat.zero_le _, rfl, S⟩
  case round =>
    clear S
    obtain ⟨x, hx, rfl, S⟩ := hrel
    by_cases hlt : x < n1
    · go_wp2
      go_loopw [5] (fun i wr => ∃ y : Nat, y ≤ n1 ∧ i = .int .i64 y ∧ FSt w wr n1 A c vs (fun u _ => u) (fun _ v => v) (fun x y => (((x + y) % n1 : Nat) : Int)) x y) (fun i _ => n1 - (intOf i).toNat)
      case atStart => exact ⟨0, Nat.zero_le _, rfl, S⟩
      case round =>
        clear S
        obtain ⟨y, hy, rfl, S⟩ := hrel
        by_cases hly : y < n1
        · have hmm : (x + y) % n1 < n1 := Nat.mod_lt _ (by omega)
          have q1 : ¬ n1 = 0 := by omega
          have q2 : IntKind.i64.wrap ((x : Int) + y) = (x : Int) + y := IntWalk.i64_in _ (by omega)
          have q3 : ((x : Int) + y).tmod n1 = (((x + y) % n1 : Nat) : Int) := by rw [Int.tmod_eq_emod_of_nonneg (by omega), Int.natCast_emod, Int.natCast_add]
          obtain ⟨g, r, k, rfl, c1, k1, k2, ⟨u, c2⟩, f2, hr, S⟩ := S.put hlt hly HP.out HI.out (by unfold I64; omega)
          have HS := Lib.hid (S.below (below_drewn _ 1))
          clear S
          simp only [← World.drew_is_drewN] at HS
          generalize (((x + y) % n1 : Nat) : Int) = val at *
          go_wp2
          refine region_last (P := Try.prog) (S := (fun w' => w'.cell? ⟨g, x, none⟩ = some (.slice (some ⟨r, 0, none⟩) n1 k))) (by kernel_rfl) (by simp only [List.getLast?_cons_cons, List.getLast?_singleton]; rfl) (by dsimp only [List.dropLast]) (by kernel_rfl) ?_ ?_
          · simpa using c1
          intro hS
          refine wpAnyH_take (i := 0) (v := ?_) rfl (by kernel_rfl) (by kernel_rfl) (by kernel_rfl) (fun _ _ _ h => h) (Or.inl ⟨by rfl, ?_⟩) (by assumption) ?_
          rotate_left
          · (intro w hSw; (try dsimp only at hSw); go_simp; (try with_reducible rfl))
          simp only [Act.put, List.setIfInBounds_toArray, List.set_cons_zero, List.set_cons_succ]
          refine wpAnyH_take (i := 1) (v := ?_) rfl (by kernel_rfl) (by kernel_rfl) (by kernel_rfl) (fun _ _ _ h => h) (Or.inl ⟨by rfl, ?_⟩) (by assumption) ?_
          rotate_left
          · (intro w hSw; (try dsimp only at hSw); go_simp; (try with_reducible rfl))
          simp only [Act.put, List.setIfInBounds_toArray, List.set_cons_zero, List.set_cons_succ]
          refine wpAnyH_take (i := 2) (v := ?_) rfl (by kernel_rfl) (by kernel_rfl) (by kernel_rfl) (fun _ _ _ h => h) (Or.inl ⟨by rfl, ?_⟩) (by assumption) ?_
          rotate_left
          · (intro w hSw; (try dsimp only at hSw); go_simp; (try with_reducible rfl))
          simp only [Act.put, List.setIfInBounds_toArray, List.set_cons_zero, List.set_cons_succ]
          refine wpAnyH_take (i := 3) (v := ?_) rfl (by kernel_rfl) (by kernel_rfl) (by kernel_rfl) (fun _ _ _ h => h) (Or.inl ⟨by rfl, ?_⟩) (by assumption) ?_
          rotate_left
          · (intro w hSw; (try dsimp only at hSw); go_simp; (try with_reducible rfl))
          simp only [Act.put, List.setIfInBounds_toArray, List.set_cons_zero, List.set_cons_succ]
          refine wpAnyH_take (i := 4) (v := ?_) rfl (by kernel_rfl) (by kernel_rfl) (by kernel_rfl) (fun _ _ _ h => h) (Or.inl ⟨by rfl, ?_⟩) (by assumption) ?_
          rotate_left
          · (intro w hSw; (try dsimp only at hSw); go_simp; (try with_reducible rfl))
          simp only [Act.put, List.setIfInBounds_toArray, List.set_cons_zero, List.set_cons_succ]
          refine wpAnyH_take (i := 5) (v := ?_) rfl (by kernel_rfl) (by kernel_rfl) (by kernel_rfl) (fun _ _ _ h => h) (Or.inl ⟨by rfl, ?_⟩) (by assumption) ?_
          rotate_left
          · (intro w hSw; (try dsimp only at hSw); go_simp; (try with_reducible rfl))
          simp only [Act.put, List.setIfInBounds_toArray, List.set_cons_zero, List.set_cons_succ]
          refine wpAnyH_take (i := 6) (v := ?_) rfl (by kernel_rfl) (by kernel_rfl) (by kernel_rfl) (fun _ _ _ h => h) (Or.inl ⟨by rfl, ?_⟩) (by assumption) ?_
          rotate_left
          · (intro w hSw; (try dsimp only at hSw); go_simp; (try with_reducible rfl))
          simp only [Act.put, List.setIfInBounds_toArray, List.set_cons_zero, List.set_cons_succ]
          refine wpAnyH_take (i := 7) (v := ?_) rfl (by kernel_rfl) (by kernel_rfl) (by kernel_rfl) (fun _ _ _ h => h) (Or.inl ⟨by rfl, ?_⟩) (by assumption) ?_
          rotate_left
          · (intro w hSw; (try dsimp only at hSw); go_simp; (try with_reducible rfl))
          simp only [Act.put, List.setIfInBounds_toArray, List.set_cons_zero, List.set_cons_succ]
          refine wpAnyH_take (i := 8) (v := ?_) rfl (by kernel_rfl) (by kernel_rfl) (by kernel_rfl) (fun _ _ _ h => h) (Or.inl ⟨by rfl, ?_⟩) (by assumption) ?_
          rotate_left
          · (intro w hSw; (try dsimp only at hSw); go_simp; (try with_reducible rfl))
          simp only [Act.put, List.setIfInBounds_toArray, List.set_cons_zero, List.set_cons_succ]
          refine wpAnyH_take (i := 9) (v := ?_) rfl (by kernel_rfl) (by kernel_rfl) (by kernel_rfl) (fun _ _ _ h => h) (Or.inl ⟨by rfl, ?_⟩) (by assumption) ?_
          rotate_left
          · (intro w hSw; (try dsimp only at hSw); go_simp; (try with_reducible rfl))
          simp only [Act.put, List.setIfInBounds_toArray, List.set_cons_zero, List.set_cons_succ]
          refine wpAnyH_take (i := 10) (v := ?_) rfl (by kernel_rfl) (by kernel_rfl) (by kernel_rfl) (fun _ _ _ h => h) (Or.inl ⟨by rfl, ?_⟩) (by assumption) ?_
          rotate_left
          · (intro w hSw; (try dsimp only at hSw); go_simp; (try with_reducible rfl))
          simp only [Act.put, List.setIfInBounds_toArray, List.set_cons_zero, List.set_cons_succ]
          refine wpAnyH_done (by kernel_rfl) ?_ _
          dsimp only [atEnd]
          clear hS
          go_wp2
          go_roundw
          case rel => exact ⟨y + 1, by omega, by go_num, HS.out⟩
          case measure => simp [intOf]; omega
        · obtain rfl : y = n1 := by omega
          have S := S.line
          go_wp2
          go_roundw
          case rel => exact ⟨x + 1, by omega, by go_num, S⟩
          case measure => simp [intOf]; omega
    · obtain rfl : x = n1 := by omega
      obtain ⟨⟨zss, ho, hF⟩, hb⟩ := S
      obtain rfl := hF.tab
      go_wp2
      go_ret
      exact ⟨_, _, _, rfl, ⟨vs, ho⟩, hb⟩
end Go.Proofs.Ytcnjlkabdfcjdaa
/- A cell that is stored: its block has grown, the others are as they were. No condition beyond those stated. -/
namespace Go.Proofs.Ytcnjlkabdfcjdaa
open Go.RowKit

theorem grown_set {w : World} {g p : Nat} {u : Value} : w.grownBy (w.setCell ⟨g, p, none⟩ u) (some g) :=
  ⟨rfl, rfl, rfl, by simp [World.setCell], fun k _ hk => Below.heap_setCell _ _ _ _ (fun e => hk (by rw [e]))⟩
theorem OI.of_os {w : World} {B : Nat} {e : TypeId} {A : Option Addr} {n c k : Nat} {zs : List Int} (h : OS w B e 1 A n c ((ints zs).take k)) (ha : All64 zs) : OI w B e A n c (zs.take k) :=
  ⟨by rwa [show (ints zs).take k = ints (zs.take k) by simp [ints]] at h, ha.take k⟩
theorem OS.typed' {w : World} {B : Nat} {e t : TypeId} {size : Nat} {A : Option Addr} {n c : Nat} {xs : List Value} {g : Nat} {cs : Array Value} (h : OS w B e size A n c xs) (k : Blk w g t cs) (hne : e ≠ t) : some g ≠ blk A := by
  rcases h.cases with ⟨rfl, _⟩ | ⟨g', cur, rfl, _, hg, _⟩
  · simp [blk]
  · intro h1
    have : g = g' := by simpa [blk] using h1
    subst this
    unfold Blk at k
    rw [k] at hg
    injection hg with hg
    injection hg with _ h2
    exact hne h2.symm
/-- nothing but zeros -/
def allZero (cs : List Int) : Prop := ∀ k, k < cs.length → nth cs k = 0
end Go.Proofs.Ytcnjlkabdfcjdaa
/- Squares that a law draws: products, and rows exchanged along a cycle. No condition beyond those stated. -/
namespace Go.Proofs.Ytcnjlkabdfcjdaa
open Go.RowKit

/-- a call that draws a square -/
def RetSq (w : World) (g p n k : Nat) (e : Ending) (w' : World) : Prop := ∃ A c zss q, e = .returned (.slice A n c) ∧ OR w' w.heap.size 30 2 A n c zss ∧ zss.length = n ∧ Square zss ∧ SrW w w' g q ∧ q ≤ p + k
set_option maxRecDepth 100000 in
set_option maxHeartbeats 1000000 in
theorem l06Switch_any (g p n : Nat) (A : Option Addr) (c B : Nat) (a : List (List Int)) (w : World) (hs : Src w g p) (hp : p ≤ 281474976710656) (hB : g < B) (ha : OR w B 30 2 A n c a) (hq : Square a) :
    Calls Try.prog 95 #[.pointer (some ⟨g, 0, none⟩), .slice A n c] w (RetSq w g p n 6) := by
  have hl := ha.len
  subst hl
  have n1 := hq.1
  have n2 := hq.2.1
  have S0 := SrW.start hs
  have HS := Lib.hid hq
  have hcl : cells a ≤ 1099511627776 := by
    have := cells_under (l := a) (k := a.length) (fun r hr => by
      obtain ⟨i, hi, rfl⟩ := List.getElem_of_mem hr
      have := (HS.out.2.2.1 i hi).1
      rw [row_get hi] at this
      omega)
    have h2 : a.length * a.length ≤ 10 * 10 := Nat.mul_le_mul n2 n2
    omega
  go_enter Try.func95, Try.ntmps95
  go_wp2_with fail
  refine (l06Own_any A a.length c a w ha.reads (by omega) hcl).mono ?_
  rintro e w1 ⟨A', n', c', rfl, ⟨vs, ho⟩, hb⟩
  obtain rfl : n' = a.length := by rw [← ho.slen]
  have ha := ha.below hb
  have S := S0.step hb
  clear S0 hs hb hcl hq
  go_wp2_with fail
  refine (pick_any g p a.length _ S.src (by omega) (by omega) (by omega)).mono ?_
  rintro e w2 ⟨x, q2, rfl, x0, x1, hq2, hs2, hg2⟩
  have ha := ha.keptB hg2 hB
  have ho := ho.keptB hg2 S.gl
  have S := S.next hs2 hg2
  clear hs2 hg2
  go_wp2_with fail
  refine (pick_any g q2 a.length _ S.src (by omega) (by omega) (by omega)).mono ?_
  rintro e w3 ⟨z, q3, rfl, z0, z1, hq3, hs3, hg3⟩
  have ha := ha.keptB hg3 hB
  have ho := ho.keptB hg3 S.gl
  have S := S.next hs3 hg3
  clear hs3 hg3
  obtain ⟨x, rfl⟩ := Int.eq_ofNat_of_zero_le x0
  obtain ⟨z, rfl⟩ := Int.eq_ofNat_of_zero_le z0
  by_cases hxz : x = z
  · have hxe : ((x : Int) == (z : Int)) = true := by simp [hxz]
    clear hxz
    go_wp2
    go_ret
    exact ⟨_, _, _, _, rfl, ⟨vs, ho⟩, rfl, HS.out, S, by omega⟩
  have hxe : ((x : Int) == (z : Int)) = false := by simp; omega
  have HXZ := Lib.hid hxz
  have hx : x < a.length := by omega
  have hz : z < a.length := by omega
  clear hxz x0 x1 z0 z1
  go_wp2_with fail
  refine (pick_any g q3 a.length _ S.src (by omega) (by omega) (by omega)).mono ?_
  rintro e w4 ⟨y, q4, rfl, y0, y1, hq4, hs4, hg4⟩
  have ha := ha.keptB hg4 hB
  have ho := ho.keptB hg4 S.gl
  have S := S.next hs4 hg4
  clear hs4 hg4
  obtain ⟨y, rfl⟩ := Int.eq_ofNat_of_zero_le y0
  have hy : y < a.length := by omega
  obtain ⟨va, hva⟩ := ha
  obtain ⟨gA, rA, mA, kA, hA⟩ := hva.at2 (i := x) (j := y) hx (by rw [(HS.out.2.2.1 x hx).1]; exact hy)
  obtain ⟨rfl, a1, -, a3, a4, a5, a6, -, -, -, a7, -⟩ := hA
  obtain rfl : mA = a.length := by rw [← a3, (HS.out.2.2.1 x hx).1]
  have hC := Cyc.start (z := z) HS.out hx hy
  have hfb := sq_bnd HS.out hx hy
  have ho : ORv w4 w.heap.size 30 2 A' a.length c' vs (swS a x z []) := by rw [swS_nil HS.out]; exact ho
  generalize nth (row a x) y = first at *
  clear hva a3 y0 y1
  go_wp2
  clear a1 a4 a5 a6 a7
  go_loopw [9, 11] (fun yv kv wr => ∃ (y : Nat) (S : List Nat), yv = .int .i64 y ∧ kv = .int .i64 S.length ∧ Cyc a x z first S y ∧ ORv wr w.heap.size 30 2 A' a.length c' vs (swS a x z S) ∧ SrW w wr g q4) (fun _ kv _ => a.length - (intOf kv).toNat)
  case atStart => exact ⟨y, [], rfl, rfl, hC, ho, S⟩
  case round =>
    clear hC ho S hy
    obtain ⟨y, T, rfl, rfl, hC, ho, S⟩ := hrel
    have hlt := hC.short
    have hy := hC.yl
    have e1 : nth (row (swS a x z T) x) y = nth (row a x) y := by rw [swS_nth hx hy, hC.at_y]
    have e2 : nth (row (swS a x z T) z) y = nth (row a z) y := by rw [swS_nth hz hy, hC.at_y]
    have b1 := sq_bnd HS.out hx hy
    have b2 := sq_bnd HS.out hz hy
    obtain ⟨g1, r1, m1, k1, h1⟩ := ho.at2 (i := x) (j := y) hx (by rw [swS_rlen hx]; exact hy)
    obtain ⟨g2, r2, m2, k2, h2⟩ := ho.at2 (i := z) (j := y) hz (by rw [swS_rlen hz]; exact hy)
    obtain ⟨rfl, c1, -, d1, d2, d3, d4, d5, d6, -, d7, d8⟩ := h1
    obtain ⟨hg, c2, -, f1, f2, f3, f4, -, -, -, f7, -⟩ := h2
    cases hg
    obtain rfl : m1 = a.length := by rw [← d1, swS_rlen hx]
    obtain rfl : m2 = a.length := by rw [← f1, swS_rlen hz]
    rw [e1] at d4
    rw [e2] at f4
    have o1 := d8 (nth (row a z) y) (by unfold I64; omega)
    obtain ⟨g3, r3, m3, k3, h3⟩ := o1.at2 (i := z) (j := y) hz (by
      rw [row_set (by rw [swS_len]; exact hz), if_neg (by intro h; exact HXZ.out h), swS_rlen hz]; exact hy)
    obtain ⟨hg, u1, -, u3, u4, u5, u6, u7, u8, -, -, u9⟩ := h3
    cases hg
    have hm3 : m3 = a.length := by rw [← u3, row_set (by rw [swS_len]; exact hz), if_neg (by intro h; exact HXZ.out h), swS_rlen hz]
    subst hm3
    have o2 := u9 (nth (row a x) y) (by unfold I64; omega)
    have hstep := swS_step hx hz HXZ.out hy hC.ys
    rw [hstep] at o2
    have S2 := (S.far (grown_set (g := r1) (p := y) (u := .int .i64 (nth (row a z) y))) (fun b e => by injection e with e; omega)).far (grown_set (g := r3) (p := y) (u := .int .i64 (nth (row a x) y))) (fun b e => by injection e with e; omega)
    have hcl : Hid (nth (row a z) y = first → Square (swS a x z (y :: T))) := Lib.hid fun h => hC.closed HS.out hx hz HXZ.out h
    have hnx : Hid (nth (row a z) y ≠ first → ∃ v, v < a.length ∧ v ≠ y ∧ swN a x z (y :: T) x v = nth (row a z) y ∧ (∀ i, i < a.length → i ≠ y → swN a x z (y :: T) x i = nth (row a z) y → i = v) ∧ Cyc a x z first (y :: T) v) := Lib.hid fun h => hC.next HS.out hx hz HXZ.out hfb h
    clear S ho hC o1 d1 d7 d8 f1 f7 u3 u9 hstep e1 e2
    generalize nth (row a z) y = down at *
    generalize nth (row a x) y = up at *
    by_cases hd : down = first
    · have hde : (down == first) = true := by simp [hd]
      have hsq := Lib.hid (hcl.out hd)
      clear hcl hnx hd
      go_wp2
      go_ret
      exact ⟨_, _, _, _, rfl, ⟨vs, o2⟩, swS_len _, hsq.out, S2, by omega⟩
    · have hde : (down == first) = false := by simp [hd]
      obtain ⟨v, v1, v2, v3, v4, v5⟩ := hnx.out hd
      have HV3 := Lib.hid v3
      have HV4 := Lib.hid v4
      have HV2 := Lib.hid v2
      clear hcl hnx hd v2 v3 v4
      have HO := Lib.hid o2
      have HS2 := Lib.hid S2
      clear o2 S2
      go_wp2
      clear c1 c2 d4 d5 f4 u1 u6 u7
      generalize ((wr.setCell ⟨r1, y, none⟩ (.int .i64 down)).setCell ⟨r3, y, none⟩ (.int .i64 up)) = W at *
      go_loop [14, 15] (fun nx i => ∃ j : Nat, j ≤ a.length ∧ i = .int .i64 j ∧ nx = .int .i64 ((if v < j then v else 0 : Nat) : Int)) (fun _ i => a.length - (intOf i).toNat)
      case atStart => exact ⟨0, Nat.zero_le _, rfl, rfl⟩
      case round =>
        obtain ⟨j, hj, rfl, rfl⟩ := hrel
        by_cases hlj : j < a.length
        · obtain ⟨g4, r4, m4, k4, h4⟩ := HO.out.at2 (i := x) (j := j) hx (by rw [swS_rlen hx]; exact hlj)
          obtain ⟨hg, t1, -, t3, t4, t5, t6, -, -, -, -, -⟩ := h4
          cases hg
          obtain rfl : m4 = a.length := by rw [← t3, swS_rlen hx]
          rw [swS_nth hx hlj] at t6
          clear t3
          by_cases hjy : j = y
          · subst hjy
            have HN := Lib.hid (show (if v < j then v else 0 : Nat) = (if v < j + 1 then v else 0) by have := HV2.out; split <;> split <;> omega)
            rw [HN.out]
            obtain ⟨nx, hnx⟩ : ∃ nx : Nat, nx = (if v < j + 1 then v else 0) := ⟨_, rfl⟩
            rw [← hnx]
            have HX := Lib.hid hnx
            clear hnx HN
            go_wp2
            go_round
            case rel => exact ⟨j + 1, by omega, by go_num, by rw [HX.out]⟩
            case measure => simp [intOf]; omega
          · have hje : ¬ ((j : Int) = (y : Int)) := by omega
            by_cases hjv : j = v
            · have hval : (swN a x z (y :: T) x j == down) = true := by rw [hjv, HV3.out]; simp
              have HN := Lib.hid (show (if v < j + 1 then v else 0 : Nat) = j by rw [if_pos (by omega)]; omega)
              clear hjy hjv
              go_wp2
              go_round
              case rel => exact ⟨j + 1, by omega, by go_num, by rw [HN.out]⟩
              case measure => simp [intOf]; omega
            · have hval : (swN a x z (y :: T) x j == down) = false := by
                simp only [beq_eq_false_iff_ne, ne_eq]
                intro h
                exact hjv (HV4.out j hlj hjy h)
              have HN := Lib.hid (show (if v < j then v else 0 : Nat) = (if v < j + 1 then v else 0) by split <;> split <;> omega)
              clear hjy hjv
              rw [HN.out]
              obtain ⟨nx, hnx⟩ : ∃ nx : Nat, nx = (if v < j + 1 then v else 0) := ⟨_, rfl⟩
              rw [← hnx]
              have HX := Lib.hid hnx
              clear hnx HN
              go_wp2
              go_round
              case rel => exact ⟨j + 1, by omega, by go_num, by rw [HX.out]⟩
              case measure => simp [intOf]; omega
        · obtain rfl : j = a.length := by omega
          rw [if_pos v1]
          go_wp2
          go_roundw
          case rel => exact ⟨v, y :: T, rfl, by go_num, v5, HO.out, HS2.out⟩
          case measure => simp [intOf]; omega
end Go.Proofs.Ytcnjlkabdfcjdaa
