/- Steiner triple systems: the program's side. No condition beyond those stated. -/
import Derived.Test.YtnmcmologlgccaaGreatSZAE
set_option linter.unusedVariables false
set_option linter.unusedSimpArgs false
namespace Go.Proofs.YtnmcmologlgccaaGreat
open Go.RowKit
def triP (x y z : Int) : List Int := srt [x, y, z]
theorem triP_len (x y z : Int) : (triP x y z).length = 3 := by unfold triP; rw [srt_len]; rfl
def mixT (n : Nat) (F : Int → Int) (x y i : Nat) : List Int := triP ((x : Int) + n * i) ((y : Int) + n * i) (F (((x : Int) + y) % n) + n * (((i : Int) + 1) % 3))
def mixI (n : Nat) (F : Int → Int) (x y i : Nat) : List (List Int) := ((List.range 3).drop i).map (mixT n F x y)
def mixY (n : Nat) (F : Int → Int) (x y : Nat) : List (List Int) := ((List.range n).drop y).flatMap fun y => mixI n F x y 0
def mixX (n : Nat) (F : Int → Int) (x : Nat) : List (List Int) := ((List.range n).drop x).flatMap fun x => mixY n F x (x + 1)
theorem rdropK {n x : Nat} (h : x < n) : (List.range n).drop x = x :: (List.range n).drop (x + 1) := by
  rw [List.drop_eq_getElem_cons (by simpa using h)]
  simp
theorem rdropK_end {n x : Nat} (h : n ≤ x) : (List.range n).drop x = [] := List.drop_eq_nil_of_le (by simpa using h)
theorem mixX_step (n : Nat) (F : Int → Int) {x : Nat} (h : x < n) : mixX n F x = mixY n F x (x + 1) ++ mixX n F (x + 1) := by unfold mixX; rw [rdropK h, List.flatMap_cons]
theorem mixX_end (n : Nat) (F : Int → Int) : mixX n F n = [] := by unfold mixX; rw [rdropK_end (Nat.le_refl _)]; rfl
theorem mixY_step (n : Nat) (F : Int → Int) (x : Nat) {y : Nat} (h : y < n) : mixY n F x y = mixI n F x y 0 ++ mixY n F x (y + 1) := by unfold mixY; rw [rdropK h, List.flatMap_cons]
theorem mixY_end (n : Nat) (F : Int → Int) (x : Nat) {y : Nat} (h : n ≤ y) : mixY n F x y = [] := by unfold mixY; rw [rdropK_end h]; rfl
theorem mixI_step (n : Nat) (F : Int → Int) (x y : Nat) {i : Nat} (h : i < 3) : mixI n F x y i = mixT n F x y i :: mixI n F x y (i + 1) := by unfold mixI; rw [rdropK h, List.map_cons]
theorem mixI_end (n : Nat) (F : Int → Int) (x y : Nat) {i : Nat} (h : 3 ≤ i) : mixI n F x y i = [] := by unfold mixI; rw [rdropK_end h]; rfl
theorem len_left {L done rest : List (List Int)} (h : L = done ++ rest) : done.length ≤ L.length := by rw [h, List.length_append]; omega
set_option maxHeartbeats 1000000 in
theorem triple_any (x y z : Int) (w : World) (hx : I64 x) (hy : I64 y) (hz : I64 z) :
    Calls Tryz.prog 141 #[.int .i64 x, .int .i64 y, .int .i64 z] w (RetI w 2 (triP x y z)) := by
  have ho : OI (w.alloc (.cells #[.int .i64 x, .int .i64 y, .int .i64 z] 2)) w.heap.size 2 (some ⟨w.heap.size, 0, none⟩) 3 3 [x, y, z] :=
    OI.lit w w.heap.size 2 [x, y, z] (Nat.le_refl _) (by simp) (fun u hu => by simp at hu; rcases hu with rfl | rfl | rfl <;> assumption)
  have hb := below_alloc w (.cells #[.int .i64 x, .int .i64 y, .int .i64 z] 2)
  have hso := sort_any _ _ _ 3 3 _ _ ho (by omega)
  go_enter Tryz.func141, Tryz.ntmps141
  go_wp2_with fail
  refine hso.mono ?_
  rintro e w2 ⟨rfl, ho2, hg2⟩
  have hb2 := below_own hb hg2 hb.size (fun b hb => (ho.os.lt hb).1)
  go_wp2
  go_ret
  exact ⟨_, 3, 3, rfl, ho2, hb2⟩
def AskN (g : Nat) (lb : Array Value) (F : Int → Int) (n : Nat) (w : World) : Prop :=
  ∀ (s : Int) (W : World), Below w.heap.size w W → 0 ≤ s → s < n → Calls Tryz.prog g (#[.int .i64 s] ++ lb) W fun e w' => e = .returned (.int .i64 (F s)) ∧ W = w'
set_option maxRecDepth 100000 in
set_option maxHeartbeats 4000000 in
theorem mixed_any (g : Nat) (lb : Array Value) (eg : ∀ args w, (callFunc g args).run Tryz.prog w = .ok (.enter g args) w) (F : Int → Int) (n : Nat) (w : World) (hn : n ≤ 32) (hF : ∀ s : Int, 0 ≤ s → s < n → 0 ≤ F s ∧ F s ≤ 1000) (hp : AskN g lb F n w) (hL : (mixX n F 0).length ≤ 1000) :
    Calls Tryz.prog 139 #[.int .i64 n, .func (.func g) #[] lb] w (RetR w 36 2 (mixX n F 0)) := by
  have HF := Lib.hid hF
  have HP := Lib.hid hp
  obtain ⟨L, hLL⟩ : ∃ L, L = mixX n F 0 := ⟨_, rfl⟩
  rw [← hLL] at hL ⊢
  have H0 : Hid (L = [] ++ mixX n F 0) := Lib.hid hLL
  have HLEN := Lib.hid (fun (done rest : List (List Int)) (h : L = done ++ rest) => Nat.le_trans (len_left h) hL)
  clear hF hp hLL hL
  go_enter Tryz.func139, Tryz.ntmps139
  go_wp2
  go_loopw [5, 6] (fun lv xv wr => ∃ (x : Nat) (B : Option Addr) (k bc : Nat) (done : List (List Int)), x ≤ n ∧ xv = .int .i64 x ∧ lv = .slice B k bc ∧ OR wr w.heap.size 36 2 B k bc done ∧ Hid (L = done ++ mixX n F x) ∧ Below w.heap.size w wr) (fun _ xv _ => n - (intOf xv).toNat)
  case atStart => exact ⟨0, none, 0, 0, [], Nat.zero_le _, rfl, rfl, OR.nil_ _ _ (by decide), H0, Below.refl _ _⟩
  case round =>
    clear H0
    obtain ⟨x, B, k, bc, done, hx, rfl, rfl, ho, HD, hb⟩ := hrel
    by_cases hlx : x < n
    · have H1 : Hid (L = done ++ (mixY n F x (x + 1) ++ mixX n F (x + 1))) := Lib.hid (by rw [← mixX_step n F hlx]; exact HD.out)
      clear HD
      generalize hW : wr = wo at *
      clear hW
      go_wp2
      go_loopw [5, 7] (fun lv yv wr => ∃ (y : Nat) (B : Option Addr) (k bc : Nat) (done : List (List Int)), y ≤ n ∧ yv = .int .i64 y ∧ lv = .slice B k bc ∧ OR wr w.heap.size 36 2 B k bc done ∧ Hid (L = done ++ (mixY n F x y ++ mixX n F (x + 1))) ∧ Below w.heap.size w wr) (fun _ yv _ => n - (intOf yv).toNat)
      case atStart => exact ⟨x + 1, B, k, bc, done, hlx, by go_num, rfl, ho, H1, hb⟩
      case round =>
        clear H1 ho hb
        obtain ⟨y, B, k, bc, done, hy, rfl, rfl, ho, HD, hb⟩ := hrel
        by_cases hly : y < n
        · have H2 : Hid (L = done ++ (mixI n F x y 0 ++ (mixY n F x (y + 1) ++ mixX n F (x + 1)))) := Lib.hid (by rw [← List.append_assoc (mixI n F x y 0), ← mixY_step n F x hly]; exact HD.out)
          clear HD
          generalize hW : wr = wo2 at *
          clear hW
          go_wp2
          go_loopw [5, 8] (fun lv iv wr => ∃ (i : Nat) (B : Option Addr) (k bc : Nat) (done : List (List Int)), i ≤ 3 ∧ iv = .int .i64 i ∧ lv = .slice B k bc ∧ OR wr w.heap.size 36 2 B k bc done ∧ Hid (L = done ++ (mixI n F x y i ++ (mixY n F x (y + 1) ++ mixX n F (x + 1)))) ∧ Below w.heap.size w wr) (fun _ iv _ => 3 - (intOf iv).toNat)
          case atStart => exact ⟨0, B, k, bc, done, by omega, rfl, rfl, ho, H2, hb⟩
          case round =>
            clear H2 ho hb
            obtain ⟨i, B, k, bc, done, hi, rfl, rfl, ho, HD, hb⟩ := hrel
            by_cases hli : i < 3
            · have hmi := mixI_step n F x y hli
              have hne : (n : Int) ≠ 0 := by omega
              have s0 := Int.emod_nonneg ((x : Int) + y) hne
              have s1 := Int.emod_lt_of_pos ((x : Int) + y) (show (0 : Int) < n by omega)
              have hask := HP.out (((x : Int) + y) % n) wr hb s0 s1
              obtain ⟨f0, f1⟩ := HF.out _ s0 s1
              have m1 : (n : Int) * i ≤ 32 * 3 := Int.mul_le_mul (by omega) (by omega) (by omega) (by omega)
              have m2 : 0 ≤ (n : Int) * i := Int.mul_nonneg (by omega) (by omega)
              have t0 := Int.emod_nonneg ((i : Int) + 1) (show (3 : Int) ≠ 0 by omega)
              have t1 := Int.emod_lt_of_pos ((i : Int) + 1) (show (0 : Int) < 3 by omega)
              have m3 : (n : Int) * (((i : Int) + 1) % 3) ≤ 32 * 3 := Int.mul_le_mul (by omega) (by omega) (by omega) (by omega)
              have m4 : 0 ≤ (n : Int) * (((i : Int) + 1) % 3) := Int.mul_nonneg (by omega) (by omega)
              have H3 : Hid (L = (done ++ [mixT n F x y i]) ++ (mixI n F x y (i + 1) ++ (mixY n F x (y + 1) ++ mixX n F (x + 1)))) := Lib.hid (by
                rw [HD.out, hmi, List.append_assoc]
                rfl)
              have hTr : mixT n F x y i = triP ((x : Int) + n * i) ((y : Int) + n * i) (F (((x : Int) + y) % n) + n * (((i : Int) + 1) % 3)) := rfl
              obtain ⟨vs, hov⟩ := ho
              have hkl := hov.slen
              have hk1 := HLEN.out _ _ HD.out
              rw [hkl] at hk1
              have hbs := hb.size
              generalize mixT n F x y i = tr at *
              generalize F (((x : Int) + y) % n) = fz at *
              have HTR := Lib.hid hTr
              have htr := fun W => triple_any ((x : Int) + n * i) ((y : Int) + n * i) (fz + n * (((i : Int) + 1) % 3)) W ⟨by omega, by omega⟩ ⟨by omega, by omega⟩ ⟨by omega, by omega⟩
              rw [← hTr] at htr
              have HT := Lib.hid htr
              clear hTr HD hmi htr
              go_wp2_with (first | (go_at_fn g; refine hask.mono ?_; rintro e w4 ⟨rfl, rfl⟩) | (go_at_call 141; refine (HT.out _).mono ?_; rintro e w5 ⟨R, rn, rc, rfl, hor, hb5⟩; have hap := hov.apart_new (v := (R, rn, rc)) (fun b hb => (hor.os.lt hb).1); have hov5 := Lib.hid (hov.below hb5); have hor5 := Lib.hid (hor.more hbs); have hbw := Lib.hid (hb.trans (hb5.mono hbs)); have hbs5 := hbw.out.size) | (at_builtin; refine app_row _ rfl (.tmp 25) (.tmp 50) rfl w.heap.size B k bc vs done rfl hov5.out (R, rn, rc) tr hor5.out hap _ rfl rfl (by omega) hbs5 ?_; intro A7 c7 w7 ho7 hg7 hn7; have hb7 := below_own hbw.out hg7 hbs5 (fun b hb => (hov5.out.os.lt hb).1)))
              exact ⟨⟨i + 1, A7, k + 1, c7, _, by omega, by go_num, rfl, ⟨_, ho7⟩, H3, hb7⟩, by simp only [intOf]; omega⟩
            · have H4 : Hid (L = done ++ (mixY n F x (y + 1) ++ mixX n F (x + 1))) := Lib.hid (by
                have := HD.out
                rw [mixI_end n F x y (by omega)] at this
                exact this)
              clear HD
              go_wp2
              go_round
              case rel => exact ⟨y + 1, B, k, bc, done, by omega, by go_num, rfl, ho, H4, hb⟩
              case measure => simp only [intOf]; omega
        · have H4 : Hid (L = done ++ mixX n F (x + 1)) := Lib.hid (by
            have := HD.out
            rw [mixY_end n F x (by omega)] at this
            exact this)
          clear HD
          go_wp2
          go_round
          case rel => exact ⟨x + 1, B, k, bc, done, by omega, by go_num, rfl, ho, H4, hb⟩
          case measure => simp only [intOf]; omega
    · obtain rfl : x = n := by omega
      have HE := Lib.hid (show L = done by rw [HD.out, mixX_end, List.append_nil])
      clear HD
      go_wp2
      go_ret
      exact ⟨B, k, bc, rfl, by rw [HE.out]; exact ho, hb⟩
def RetD (w : World) (v : Int) (bs : List (List Int)) (code : Int) (e : Ending) (w' : World) : Prop := ∃ A n c, e = .returned (.tuple #[.agg #[.int .i64 v, .slice A n c], .int .i64 code]) ∧ OR w' w.heap.size 36 2 A n c bs ∧ Below w.heap.size w w'
theorem fin_store {w w5 : World} {B : Nat} {x y : Value} {v : Int} {A : Option Addr} {n c : Nat} {bs : List (List Int)} (Y : Blk w5 w.heap.size 28 #[x, y]) (hb : Below w.heap.size w w5) (ho : OR w5 B 36 2 A n c bs) (hB : w.heap.size + 1 ≤ B) :
    OR ((w5.setCell ⟨w.heap.size, 0, none⟩ (.int .i64 v)).setCell ⟨w.heap.size, 1, none⟩ (.slice A n c)) w.heap.size 36 2 A n c bs ∧ Below w.heap.size w ((w5.setCell ⟨w.heap.size, 0, none⟩ (.int .i64 v)).setCell ⟨w.heap.size, 1, none⟩ (.slice A n c)) ∧
    ((w5.setCell ⟨w.heap.size, 0, none⟩ (.int .i64 v)).setCell ⟨w.heap.size, 1, none⟩ (.slice A n c)).cell? ⟨w.heap.size, 0, none⟩ = some (.int .i64 v) ∧ ((w5.setCell ⟨w.heap.size, 0, none⟩ (.int .i64 v)).setCell ⟨w.heap.size, 1, none⟩ (.slice A n c)).cell? ⟨w.heap.size, 1, none⟩ = some (.slice A n c) := by
  have YF := (Y.set_ 0 (.int .i64 v)).set_ 1 (.slice A n c)
  refine ⟨OR.more ((ho.setLow (p := ⟨w.heap.size, 0, none⟩) (by show w.heap.size < B; omega) _).setLow (p := ⟨w.heap.size, 1, none⟩) (by show w.heap.size < B; omega) _) (by omega), (hb.setCell (p := ⟨w.heap.size, 0, none⟩) (by simp) _).setCell (p := ⟨w.heap.size, 1, none⟩) (by simp) _, YF.cell 0, YF.cell 1⟩
def triB (v : Nat) : Bool := decide (3 ≤ v) && decide (v ≤ 27) && (decide (v % 6 = 1) || decide (v % 6 = 3))
theorem isTripleOrder_any (v : Nat) (w : World) (hv : v ≤ 1000) : Calls Tryz.prog 138 #[.int .i64 v] w (fun e w' => e = .returned (.bool (triB v)) ∧ w = w') := by
  have e1 : ((v : Int) % 6 == 1) = decide (v % 6 = 1) := by rw [Bool.eq_iff_iff]; simp; omega
  have e3 : ((v : Int) % 6 == 3) = decide (v % 6 = 3) := by rw [Bool.eq_iff_iff]; simp; omega
  have ei : inB (v : Int) 3 27 = (decide (3 ≤ v) && decide (v ≤ 27)) := by rw [Bool.eq_iff_iff]; simp [inB]; omega
  have HT : Hid (triB v = (decide (3 ≤ v) && decide (v ≤ 27) && (decide (v % 6 = 1) || decide (v % 6 = 3)))) := Lib.hid rfl
  go_enter Tryz.func138, Tryz.ntmps138
  go_wp2_with (go_at_call 30; refine (within_any _ _ _ _).mono ?_; rintro e w' ⟨rfl, rfl⟩; rw [ei])
  all_goals go_ret
  all_goals refine ⟨?_, rfl⟩
  all_goals rw [HT.out]
  all_goals first | (rename_i a b; simp [a.1, a.2, b]; done) | (rename_i a; simp at a; simp; omega)
/-! the blocks, as they are written down -/
def boxT (n x : Nat) : List Int := triP x ((x : Int) + n) ((x : Int) + 2 * n)
def boxX (m n x : Nat) : List (List Int) := ((List.range m).drop x).map (boxT n)
theorem boxX_step {m : Nat} (n : Nat) {x : Nat} (h : x < m) : boxX m n x = boxT n x :: boxX m n (x + 1) := by unfold boxX; rw [rdropK h, List.map_cons]
theorem boxX_end (m n : Nat) : boxX m n m = [] := by unfold boxX; rw [rdropK_end (Nat.le_refl _)]; rfl
def skT (t n x i : Nat) : List Int := triP (3 * n) ((x : Int) + t + n * i) ((x : Int) + n * (((i : Int) + 1) % 3))
def skI (t n x i : Nat) : List (List Int) := ((List.range 3).drop i).map (skT t n x)
theorem skI_step (t n x : Nat) {i : Nat} (h : i < 3) : skI t n x i = skT t n x i :: skI t n x (i + 1) := by unfold skI; rw [rdropK h, List.map_cons]
theorem skI_end (t n x : Nat) {i : Nat} (h : 3 ≤ i) : skI t n x i = [] := by unfold skI; rw [rdropK_end h]; rfl
def skX (t n x : Nat) : List (List Int) := ((List.range t).drop x).flatMap fun x => boxT n x :: skI t n x 0
theorem skX_step (t n : Nat) {x : Nat} (h : x < t) : skX t n x = boxT n x :: (skI t n x 0 ++ skX t n (x + 1)) := by unfold skX; rw [rdropK h, List.flatMap_cons]; rfl
theorem skX_end (t n : Nat) : skX t n t = [] := by unfold skX; rw [rdropK_end (Nat.le_refl _)]; rfl
def bosF (t : Nat) (s : Int) : Int := ((t : Int) + 1) * s % (2 * t + 1 : Nat)
def skoF (t : Nat) (s : Int) : Int := s / 2 + s % 2 * t
def bosL (t : Nat) : List (List Int) := mixX (2 * t + 1) (bosF t) 0 ++ boxX (2 * t + 1) (2 * t + 1) 0
def skoL (t : Nat) : List (List Int) := mixX (2 * t) (skoF t) 0 ++ skX t (2 * t) 0
theorem mixI_len (n : Nat) (F : Int → Int) (x y : Nat) : (mixI n F x y 0).length = 3 := by simp [mixI]
theorem mixY_len (n : Nat) (F : Int → Int) (x y : Nat) : (mixY n F x y).length = 3 * (n - y) := by
  unfold mixY
  generalize hl : (List.range n).drop y = l
  have hll : l.length = n - y := by rw [← hl]; simp
  rw [← hll]
  clear hl hll
  induction l with
  | nil => rfl
  | cons a l ih => rw [List.flatMap_cons, List.length_append, mixI_len, ih, List.length_cons]; omega
theorem mixX_len_le (n : Nat) (F : Int → Int) : (mixX n F 0).length ≤ 3 * n * n := by
  unfold mixX
  have h : ∀ l : List Nat, (l.flatMap fun x => mixY n F x (x + 1)).length ≤ 3 * n * l.length := by
    intro l
    induction l with
    | nil => simp
    | cons a l ih =>
      rw [List.flatMap_cons, List.length_append, mixY_len, List.length_cons]
      have : 3 * (n - (a + 1)) ≤ 3 * n := by omega
      rw [Nat.mul_add]
      omega
  have := h ((List.range n).drop 0)
  simpa using this
theorem cells_le3 {bs : List (List Int)} (h : ∀ b ∈ bs, b.length ≤ 32) : cells bs ≤ 32 * bs.length := by
  induction bs with
  | nil => simp [cells]
  | cons b bs ih =>
    have h1 := h b List.mem_cons_self
    have h2 := ih (fun c hc => h c (List.mem_cons_of_mem _ hc))
    rw [show b :: bs = [b] ++ bs from rfl, cells_app, cells_one]
    simp only [List.length_append, List.length_singleton]
    omega
theorem mixX_three {n : Nat} {F : Int → Int} {x : Nat} {b : List Int} (h : b ∈ mixX n F x) : b.length = 3 := by
  unfold mixX mixY mixI at h
  obtain ⟨x, _, h⟩ := List.mem_flatMap.1 h
  obtain ⟨y, _, h⟩ := List.mem_flatMap.1 h
  obtain ⟨i, _, rfl⟩ := List.mem_map.1 h
  exact triP_len _ _ _
theorem boxX_three {m n x : Nat} {b : List Int} (h : b ∈ boxX m n x) : b.length = 3 := by
  unfold boxX at h
  obtain ⟨i, _, rfl⟩ := List.mem_map.1 h
  exact triP_len _ _ _
theorem skX_three {t n x : Nat} {b : List Int} (h : b ∈ skX t n x) : b.length = 3 := by
  unfold skX skI at h
  obtain ⟨x, _, h⟩ := List.mem_flatMap.1 h
  rcases List.mem_cons.1 h with rfl | h
  · exact triP_len _ _ _
  · obtain ⟨i, _, rfl⟩ := List.mem_map.1 h
    exact triP_len _ _ _
theorem bos_len : ∀ t, t < 5 → (bosL t).length ≤ 128 := by decide +kernel
theorem sko_len : ∀ t, t < 5 → (skoL t).length ≤ 128 := by decide +kernel
theorem bos_cells {t : Nat} (h : t < 5) : cells (bosL t) ≤ 1099511627776 := by
  have := cells_le3 (bs := bosL t) (fun b hb => by
    have : b.length = 3 := (List.mem_append.1 hb).elim mixX_three boxX_three
    omega)
  have := bos_len t h
  omega
theorem sko_cells {t : Nat} (h : t < 5) : cells (skoL t) ≤ 1099511627776 := by
  have := cells_le3 (bs := skoL t) (fun b hb => by
    have : b.length = 3 := (List.mem_append.1 hb).elim mixX_three skX_three
    omega)
  have := sko_len t h
  omega
set_option maxRecDepth 100000 in
theorem makeTriples1_any (p1 p2 : Addr) (s : Int) (t : Nat) (w : World) (h1 : w.cell? p1 = some (.int .i64 (t : Int))) (h2 : w.cell? p2 = some (.int .i64 ((2 * t + 1 : Nat) : Int))) (hs0 : 0 ≤ s) (hs : s ≤ 100) (ht : t ≤ 100) :
    Calls Tryz.prog 140 #[.int .i64 s, .pointer (some p1), .pointer (some p2)] w (fun e w' => e = .returned (.int .i64 (bosF t s)) ∧ w = w') := by
  have m1 : ((t : Int) + 1) * s ≤ 101 * 100 := Int.mul_le_mul (by omega) (by omega) (by omega) (by omega)
  have m0 : 0 ≤ ((t : Int) + 1) * s := Int.mul_nonneg (by omega) (by omega)
  have HB : Hid (bosF t s = ((t : Int) + 1) * s % (2 * t + 1 : Nat)) := Lib.hid rfl
  have hne : ¬ ((2 * t + 1 : Nat) : Int) = 0 := by omega
  generalize hn : 2 * t + 1 = n at *
  clear hn
  go_enter Tryz.func140, Tryz.ntmps140
  go_wp2
  go_ret
  exact ⟨by rw [HB.out]; rfl, rfl⟩
set_option maxRecDepth 100000 in
theorem makeTriples2_any (p1 : Addr) (s : Int) (t : Nat) (w : World) (h1 : w.cell? p1 = some (.int .i64 (t : Int))) (hs0 : 0 ≤ s) (hs : s ≤ 100) (ht : t ≤ 100) :
    Calls Tryz.prog 142 #[.int .i64 s, .pointer (some p1)] w (fun e w' => e = .returned (.int .i64 (skoF t s)) ∧ w = w') := by
  have m1 : s % 2 * (t : Int) ≤ 1 * 100 := Int.mul_le_mul (by omega) (by omega) (by omega) (by omega)
  have m0 : 0 ≤ s % 2 * (t : Int) := Int.mul_nonneg (by omega) (by omega)
  have HB : Hid (skoF t s = s / 2 + s % 2 * t) := Lib.hid rfl
  go_enter Tryz.func142, Tryz.ntmps142
  go_wp2
  go_ret
  exact ⟨by rw [HB.out]; rfl, rfl⟩
set_option maxRecDepth 100000 in
theorem makeTriples_no (v : Nat) (w : World) (hv : v ≤ 1000) (h : triB v = false) : Calls Tryz.prog 89 #[.int .i64 v] w (RetD w 0 [] 2) := by
  have hb0 := below_alloc w (.cells #[.int .i64 0, .slice none 0 0] 28)
  have Y := Blk.new w 28 #[.int .i64 0, .slice none 0 0]
  obtain ⟨y0, y1⟩ := Y.cells2
  have f0 := Y.frozen 0
  have f1 := Y.frozen 1
  have hto := isTripleOrder_any v (w.alloc (.cells #[.int .i64 0, .slice none 0 0] 28)) hv
  rw [h] at hto
  go_enter Tryz.func89, Tryz.ntmps89
  go_wp2_with (go_at_call 138; refine hto.mono ?_; rintro e w' ⟨rfl, rfl⟩)
  exact bodyPost_ret (v := .tuple #[.agg #[.int .i64 0, .slice none 0 0], .int .i64 2]) (by simp [results, Tryz.results89, go_sem, y0, y1]) rfl ⟨none, 0, 0, rfl, OR.nil_ _ _ (by decide), hb0⟩
set_option maxRecDepth 100000 in
set_option maxHeartbeats 4000000 in
theorem makeTriples_bose (t : Nat) (w : World) (h1 : t ≤ 4) : Calls Tryz.prog 89 #[.int .i64 (6 * t + 3 : Nat)] w (RetD w (6 * t + 3 : Nat) (srtR (bosL t)) 0) := by
  obtain ⟨v, hv⟩ : ∃ v, v = 6 * t + 3 := ⟨_, rfl⟩
  rw [← hv]
  have hb0 := below_alloc w (.cells #[.int .i64 0, .slice none 0 0] 28)
  have Y := Blk.new w 28 #[.int .i64 0, .slice none 0 0]
  have hto := isTripleOrder_any v (w.alloc (.cells #[.int .i64 0, .slice none 0 0] 28)) (by omega)
  rw [show triB v = true by simp [triB]; omega] at hto
  have eq6 : (v : Int) / 6 = (t : Int) := by omega
  have e3 : ((v : Int) % 6 == 3) = true := by simp; omega
  obtain ⟨n, hn⟩ : ∃ n, n = 2 * t + 1 := ⟨_, rfl⟩
  have en : 2 * (t : Int) + 1 = (n : Int) := by omega
  have HL0 : Hid (bosL t = mixX n (bosF t) 0 ++ boxX n n 0) := Lib.hid (by rw [hn]; rfl)
  have HN := Lib.hid hn
  have hn9 : n ≤ 9 := by omega
  have hml := mixX_len_le n (bosF t)
  have hml2 : 3 * n * n ≤ 3 * 9 * 9 := Nat.mul_le_mul (by omega) (by omega)
  have HV := Lib.hid hv
  clear hn hv
  go_enter Tryz.func89, Tryz.ntmps89
  go_wp2_with (go_at_call 138; refine hto.mono ?_; rintro e w' ⟨rfl, rfl⟩)
  have Y1 := Y.alloc (.cells #[.int .i64 (t : Int)] 2)
  have Y2 := Y1.alloc (.cells #[.int .i64 (n : Int)] 2)
  have T1 := Blk.new (w.alloc (.cells #[.int .i64 0, .slice none 0 0] 28)) 2 #[.int .i64 (t : Int)]
  rw [show (w.alloc (.cells #[.int .i64 0, .slice none 0 0] 28)).heap.size = w.heap.size + 1 by simp] at T1
  have T2 := T1.alloc (.cells #[.int .i64 (n : Int)] 2)
  have N2 := Blk.new ((w.alloc (.cells #[.int .i64 0, .slice none 0 0] 28)).alloc (.cells #[.int .i64 (t : Int)] 2)) 2 #[.int .i64 (n : Int)]
  rw [show ((w.alloc (.cells #[.int .i64 0, .slice none 0 0] 28)).alloc (.cells #[.int .i64 (t : Int)] 2)).heap.size = w.heap.size + 1 + 1 by simp] at N2
  have hb3 := (hb0.alloc (by simp) (.cells #[.int .i64 (t : Int)] 2)).alloc (by simp; omega) (.cells #[.int .i64 (n : Int)] 2)
  have hz3 : (((w.alloc (.cells #[.int .i64 0, .slice none 0 0] 28)).alloc (.cells #[.int .i64 (t : Int)] 2)).alloc (.cells #[.int .i64 (n : Int)] 2)).heap.size = w.heap.size + 1 + 1 + 1 := by simp
  clear hto hb0 Y Y1 T1
  generalize ((w.alloc (.cells #[.int .i64 0, .slice none 0 0] 28)).alloc (.cells #[.int .i64 (t : Int)] 2)).alloc (.cells #[.int .i64 (n : Int)] 2) = W3 at *
  have hne : (n : Int) ≠ 0 := by have := HN.out; omega
  refine (mixed_any 140 _ (fun _ _ => by kernel_rfl) (bosF t) n W3 (by omega) (fun s s0 s1 => by
    unfold bosF
    rw [← HN.out]
    have a0 := Int.emod_nonneg (((t : Int) + 1) * s) hne
    have a1 := Int.emod_lt_of_pos (((t : Int) + 1) * s) (show (0 : Int) < n by omega)
    omega) (fun s W hW s0 s1 => by
    have c1 := below_cell hW (T2.cell 0)
    have c2 := below_cell hW (N2.cell 0)
    exact makeTriples1_any _ _ s t W (by simpa using c1) (by rw [← HN.out]; simpa using c2) s0 (by omega) (by omega)) (by omega)).mono ?_
  rintro e w4 ⟨B, k, bc, rfl, ho, hb4⟩
  have HLEN := Lib.hid (fun (done rest : List (List Int)) (h : bosL t = done ++ rest) => len_left h)
  have hLle : (bosL t).length ≤ 252 := by
    rw [HL0.out, List.length_append]
    have : (boxX n n 0).length = n := by simp [boxX]
    omega
  have hL128 := bos_len t (by omega)
  have hLc := bos_cells (t := t) (by omega)
  generalize hLg : bosL t = L at *
  clear hml hml2 eq6 e3 en hne
  rw [hz3] at ho hb4
  obtain ⟨D, hD⟩ : ∃ D, D = w.heap.size + 1 + 1 + 1 := ⟨_, rfl⟩
  rw [← hD] at ho hb4 hz3
  have HD := Lib.hid hD
  have hDw : w.heap.size ≤ D := by omega
  clear hD
  go_wp2
  go_loopw [5, 7] (fun lv xv wr => ∃ (x : Nat) (B : Option Addr) (k bc : Nat) (done : List (List Int)), x ≤ n ∧ xv = .int .i64 x ∧ lv = .slice B k bc ∧ OR wr D 36 2 B k bc done ∧ Hid (L = done ++ boxX n n x) ∧ Below D W3 wr) (fun _ xv _ => n - (intOf xv).toNat)
  case atStart => exact ⟨0, B, k, bc, _, Nat.zero_le _, rfl, rfl, ho, HL0, hb4⟩
  case round =>
    clear ho hb4
    obtain ⟨x, B, k, bc, done, hx, rfl, rfl, ho, HX, hb⟩ := hrel
    have N := N2.below hb (by have := HD.out; omega)
    have cn := N.cell 0
    have hsz := hb.size
    replace cn : wr.cell? ⟨w.heap.size + 1 + 1, 0, none⟩ = some (.int .i64 (n : Int)) := by simpa using cn
    by_cases hlx : x < n
    · have hst := boxX_step n hlx
      have H3 : Hid (L = (done ++ [boxT n x]) ++ boxX n n (x + 1)) := Lib.hid (by
        rw [HX.out, hst, List.append_assoc]
        rfl)
      obtain ⟨vs, hov⟩ := ho
      have hkl := hov.slen
      have hk1 := HLEN.out _ _ HX.out
      rw [hkl] at hk1
      have htr := triple_any (x : Int) ((x : Int) + n) ((x : Int) + 2 * n) wr ⟨by omega, by omega⟩ ⟨by omega, by omega⟩ ⟨by omega, by omega⟩
      rw [show triP (x : Int) ((x : Int) + n) ((x : Int) + 2 * n) = boxT n x from rfl] at htr
      clear hst HX
      generalize boxT n x = tr at *
      go_wp2_with (first | (go_at_call 141; refine htr.mono ?_; rintro e w5 ⟨R, rn, rc, rfl, hor, hb5⟩; have hap := hov.apart_new (v := (R, rn, rc)) (fun b hb => (hor.os.lt hb).1); have hov5 := Lib.hid (hov.below hb5); have hor5 := Lib.hid (hor.more (show D ≤ wr.heap.size by omega)); have hbw := Lib.hid (hb.trans (hb5.mono (by omega))); have hbs5 := hbw.out.size; have hD5 : D ≤ w5.heap.size := by omega) | (at_builtin; refine app_row _ rfl (.tmp 31) (.tmp 41) rfl D B k bc vs done rfl hov5.out (R, rn, rc) tr hor5.out hap _ rfl rfl (by omega) hD5 ?_; intro A7 c7 w7 ho7 hg7 hn7; have hb7 := below_own hbw.out hg7 hD5 (fun b hb => (hov5.out.os.lt hb).1)))
      exact ⟨⟨x + 1, A7, k + 1, c7, _, by omega, by go_num, rfl, ⟨_, ho7⟩, H3, hb7⟩, by simp only [intOf]; omega⟩
    · obtain rfl : x = n := by omega
      have HE := Lib.hid (show L = done by rw [HX.out, boxX_end, List.append_nil])
      have Y5 := Y2.below hb (by have := HD.out; omega)
      obtain ⟨vs, hov⟩ := ho
      have hkl := hov.slen
      have hrr := OR.reads ⟨vs, hov⟩
      rw [← HE.out] at hrr
      have hkL : k = L.length := by rw [HE.out, hkl]
      have hso := sorted_any (v : Int) B k bc L wr hrr (by omega) hLc
      have hwr := hb3.trans (hb.mono hDw)
      have hDr : w.heap.size + 1 ≤ wr.heap.size := by have := HD.out; omega
      have hlY := Y5.lt
      clear HX hov hkl hrr hLg
      subst hkL
      go_wp2_with fail
      refine hso.mono ?_
      rintro e w5 ⟨A5, c5, rfl, ho5, hb5⟩
      have Y6 := Y5.after hb5
      have hw5 := hwr.trans (hb5.mono hwr.size)
      obtain ⟨y0, y1⟩ := Y6.cells2
      have f0 := Y6.frozen 0
      have f1 := Y6.frozen 1
      obtain ⟨q0, q1, q2, q3⟩ := fin_store (v := (v : Int)) Y6 hw5 ho5 hDr
      have Q := Lib.hid (And.intro q0 q1)
      clear q0 q1 hso
      go_wp2
      exact bodyPost_ret (v := .tuple #[.agg #[.int .i64 (v : Int), .slice A5 L.length c5], .int .i64 0]) (by simp [results, Tryz.results89, go_sem, q2, q3]) rfl ⟨A5, L.length, c5, rfl, Q.out.1, Q.out.2⟩
set_option maxRecDepth 100000 in
set_option maxHeartbeats 4000000 in
theorem makeTriples_skolem (t : Nat) (w : World) (h0 : 1 ≤ t) (h1 : t ≤ 4) : Calls Tryz.prog 89 #[.int .i64 (6 * t + 1 : Nat)] w (RetD w (6 * t + 1 : Nat) (srtR (skoL t)) 0) := by
  obtain ⟨v, hv⟩ : ∃ v, v = 6 * t + 1 := ⟨_, rfl⟩
  rw [← hv]
  have hb0 := below_alloc w (.cells #[.int .i64 0, .slice none 0 0] 28)
  have Y := Blk.new w 28 #[.int .i64 0, .slice none 0 0]
  have hto := isTripleOrder_any v (w.alloc (.cells #[.int .i64 0, .slice none 0 0] 28)) (by omega)
  rw [show triB v = true by simp [triB]; omega] at hto
  have eq6 : (v : Int) / 6 = (t : Int) := by omega
  have e3 : ((v : Int) % 6 == 3) = false := by simp; omega
  obtain ⟨n, hn⟩ : ∃ n, n = 2 * t := ⟨_, rfl⟩
  have en : 2 * (t : Int) = (n : Int) := by omega
  have HL0 : Hid (skoL t = mixX n (skoF t) 0 ++ skX t n 0) := Lib.hid (by rw [hn]; rfl)
  have HN := Lib.hid hn
  have hn9 : n ≤ 9 := by omega
  have hml := mixX_len_le n (skoF t)
  have hml2 : 3 * n * n ≤ 3 * 9 * 9 := Nat.mul_le_mul (by omega) (by omega)
  have HV := Lib.hid hv
  clear hn hv
  go_enter Tryz.func89, Tryz.ntmps89
  go_wp2_with (go_at_call 138; refine hto.mono ?_; rintro e w' ⟨rfl, rfl⟩)
  have Y2 := Y.alloc (.cells #[.int .i64 (t : Int)] 2)
  have T2 := Blk.new (w.alloc (.cells #[.int .i64 0, .slice none 0 0] 28)) 2 #[.int .i64 (t : Int)]
  rw [show (w.alloc (.cells #[.int .i64 0, .slice none 0 0] 28)).heap.size = w.heap.size + 1 by simp] at T2
  have hb3 := hb0.alloc (by simp) (.cells #[.int .i64 (t : Int)] 2)
  have hz3 : ((w.alloc (.cells #[.int .i64 0, .slice none 0 0] 28)).alloc (.cells #[.int .i64 (t : Int)] 2)).heap.size = w.heap.size + 1 + 1 := by simp
  clear hto hb0 Y
  generalize (w.alloc (.cells #[.int .i64 0, .slice none 0 0] 28)).alloc (.cells #[.int .i64 (t : Int)] 2) = W3 at *
  refine (mixed_any 142 _ (fun _ _ => by kernel_rfl) (skoF t) n W3 (by omega) (fun s s0 s1 => by
    unfold skoF
    have a0 : 0 ≤ s % 2 * (t : Int) := Int.mul_nonneg (by omega) (by omega)
    have a1 : s % 2 * (t : Int) ≤ 1 * 4 := Int.mul_le_mul (by omega) (by omega) (by omega) (by omega)
    omega) (fun s W hW s0 s1 => by
    have c1 := below_cell hW (T2.cell 0)
    exact makeTriples2_any _ s t W (by simpa using c1) s0 (by omega) (by omega)) (by omega)).mono ?_
  rintro e w4 ⟨B, k, bc, rfl, ho, hb4⟩
  have HLEN := Lib.hid (fun (done rest : List (List Int)) (h : skoL t = done ++ rest) => len_left h)
  have hL128 := sko_len t (by omega)
  have hLc := sko_cells (t := t) (by omega)
  generalize hLg : skoL t = L at *
  clear hml hml2 eq6 e3 hLg
  rw [hz3] at ho hb4
  obtain ⟨D, hD⟩ : ∃ D, D = w.heap.size + 1 + 1 := ⟨_, rfl⟩
  rw [← hD] at ho hb4 hz3
  have HD := Lib.hid hD
  have hDw : w.heap.size ≤ D := by omega
  clear hD
  have ct0 := T2.below hb4 (by have := HD.out; omega)
  have ct0 := ct0.cell 0
  replace ct0 : w4.cell? ⟨w.heap.size + 1, 0, none⟩ = some (.int .i64 (t : Int)) := by simpa using ct0
  go_wp2
  clear ct0
  go_loopw [5, 9] (fun lv xv wr => ∃ (x : Nat) (B : Option Addr) (k bc : Nat) (done : List (List Int)), x ≤ t ∧ xv = .int .i64 x ∧ lv = .slice B k bc ∧ OR wr D 36 2 B k bc done ∧ Hid (L = done ++ skX t n x) ∧ Below D W3 wr) (fun _ xv _ => t - (intOf xv).toNat)
  case atStart => exact ⟨0, B, k, bc, _, Nat.zero_le _, rfl, rfl, ho, HL0, hb4⟩
  case round =>
    clear ho hb4
    obtain ⟨x, B, k, bc, done, hx, rfl, rfl, ho, HX, hb⟩ := hrel
    have N := T2.below hb (by have := HD.out; omega)
    have cn := N.cell 0
    have hsz := hb.size
    replace cn : wr.cell? ⟨w.heap.size + 1, 0, none⟩ = some (.int .i64 (t : Int)) := by simpa using cn
    by_cases hlx : x < t
    · have hst := skX_step t n hlx
      have H3 : Hid (L = (done ++ [boxT n x]) ++ (skI t n x 0 ++ skX t n (x + 1))) := Lib.hid (by
        rw [HX.out, hst, List.append_assoc]
        rfl)
      obtain ⟨vs, hov⟩ := ho
      have hkl := hov.slen
      have hk1 := HLEN.out _ _ HX.out
      rw [hkl] at hk1
      have htr := triple_any (x : Int) ((x : Int) + n) ((x : Int) + 2 * n) wr ⟨by omega, by omega⟩ ⟨by omega, by omega⟩ ⟨by omega, by omega⟩
      rw [show triP (x : Int) ((x : Int) + n) ((x : Int) + 2 * n) = boxT n x from rfl] at htr
      clear hst HX
      generalize boxT n x = tr at *
      go_wp2_with (first | (go_at_call 141; refine htr.mono ?_; rintro e w5 ⟨R, rn, rc, rfl, hor, hb5⟩; have hap := hov.apart_new (v := (R, rn, rc)) (fun b hb => (hor.os.lt hb).1); have hov5 := Lib.hid (hov.below hb5); have hor5 := Lib.hid (hor.more (show D ≤ wr.heap.size by omega)); have hbw := Lib.hid (hb.trans (hb5.mono (by omega))); have hbs5 := hbw.out.size; have hD5 : D ≤ w5.heap.size := by omega) | (at_builtin; refine app_row _ rfl (.tmp 58) (.tmp 68) rfl D B k bc vs done rfl hov5.out (R, rn, rc) tr hor5.out hap _ rfl rfl (by omega) hD5 ?_; intro A7 c7 w7 ho7 hg7 hn7; have hb7 := below_own hbw.out hg7 hD5 (fun b hb => (hov5.out.os.lt hb).1)))
      clear hov hov5 hor5 hor hb5 htr hap hg7 hn7 hbw hbs5 hD5 cn N
      go_loopw [5, 10] (fun lv iv wr => ∃ (i : Nat) (B : Option Addr) (k bc : Nat) (done : List (List Int)), i ≤ 3 ∧ iv = .int .i64 i ∧ lv = .slice B k bc ∧ OR wr D 36 2 B k bc done ∧ Hid (L = done ++ (skI t n x i ++ skX t n (x + 1))) ∧ Below D W3 wr) (fun _ iv _ => 3 - (intOf iv).toNat)
      case atStart => exact ⟨0, A7, k + 1, c7, _, by omega, rfl, rfl, ⟨_, ho7⟩, H3, hb7⟩
      case round =>
        clear ho7 hb7 H3 hkl hk1 hb hsz
        obtain ⟨i, B, k, bc, done, hi, rfl, rfl, ho, HX, hb⟩ := hrel
        have N := T2.below hb (by have := HD.out; omega)
        have cn := N.cell 0
        have hsz := hb.size
        replace cn : wr.cell? ⟨w.heap.size + 1, 0, none⟩ = some (.int .i64 (t : Int)) := by simpa using cn
        by_cases hli : i < 3
        · have hst := skI_step t n x hli
          have H3 : Hid (L = (done ++ [skT t n x i]) ++ (skI t n x (i + 1) ++ skX t n (x + 1))) := Lib.hid (by
            rw [HX.out, hst, List.append_assoc]
            rfl)
          have m1 : (n : Int) * i ≤ 9 * 3 := Int.mul_le_mul (by omega) (by omega) (by omega) (by omega)
          have m2 : 0 ≤ (n : Int) * i := Int.mul_nonneg (by omega) (by omega)
          have t0 := Int.emod_nonneg ((i : Int) + 1) (show (3 : Int) ≠ 0 by omega)
          have t1 := Int.emod_lt_of_pos ((i : Int) + 1) (show (0 : Int) < 3 by omega)
          have m3 : (n : Int) * (((i : Int) + 1) % 3) ≤ 9 * 3 := Int.mul_le_mul (by omega) (by omega) (by omega) (by omega)
          have m4 : 0 ≤ (n : Int) * (((i : Int) + 1) % 3) := Int.mul_nonneg (by omega) (by omega)
          obtain ⟨vs, hov⟩ := ho
          have hkl := hov.slen
          have hk1 := HLEN.out _ _ HX.out
          rw [hkl] at hk1
          have htr := triple_any (3 * (n : Int)) ((x : Int) + t + n * i) ((x : Int) + n * (((i : Int) + 1) % 3)) wr ⟨by omega, by omega⟩ ⟨by omega, by omega⟩ ⟨by omega, by omega⟩
          rw [show triP (3 * (n : Int)) ((x : Int) + t + n * i) ((x : Int) + n * (((i : Int) + 1) % 3)) = skT t n x i from rfl] at htr
          clear hst HX
          generalize skT t n x i = tr at *
          go_wp2_with (first | (go_at_call 141; refine htr.mono ?_; rintro e w5 ⟨R, rn, rc, rfl, hor, hb5⟩; have hap := hov.apart_new (v := (R, rn, rc)) (fun b hb => (hor.os.lt hb).1); have hov5 := Lib.hid (hov.below hb5); have hor5 := Lib.hid (hor.more (show D ≤ wr.heap.size by omega)); have hbw := Lib.hid (hb.trans (hb5.mono (by omega))); have hbs5 := hbw.out.size; have hD5 : D ≤ w5.heap.size := by omega) | (at_builtin; refine app_row _ rfl (.tmp 74) (.tmp 92) rfl D B k bc vs done rfl hov5.out (R, rn, rc) tr hor5.out hap _ rfl rfl (by omega) hD5 ?_; intro A7 c7 w7 ho7 hg7 hn7; have hb7 := below_own hbw.out hg7 hD5 (fun b hb => (hov5.out.os.lt hb).1)))
          exact ⟨⟨i + 1, A7, k + 1, c7, _, by omega, by go_num, rfl, ⟨_, ho7⟩, H3, hb7⟩, by simp only [intOf]; omega⟩
        · have H4 : Hid (L = done ++ skX t n (x + 1)) := Lib.hid (by
            have := HX.out
            rw [skI_end t n x (by omega)] at this
            exact this)
          clear HX
          go_wp2
          go_round
          case rel => exact ⟨x + 1, B, k, bc, done, by omega, by go_num, rfl, ho, H4, hb⟩
          case measure => simp only [intOf]; omega
    · obtain rfl : x = t := by omega
      have HE := Lib.hid (show L = done by rw [HX.out, skX_end, List.append_nil])
      have Y5 := Y2.below hb (by have := HD.out; omega)
      obtain ⟨vs, hov⟩ := ho
      have hkl := hov.slen
      have hrr := OR.reads ⟨vs, hov⟩
      rw [← HE.out] at hrr
      have hkL : k = L.length := by rw [HE.out, hkl]
      have hso := sorted_any (v : Int) B k bc L wr hrr (by omega) hLc
      have hwr := hb3.trans (hb.mono hDw)
      have hDr : w.heap.size + 1 ≤ wr.heap.size := by have := HD.out; omega
      have hlY := Y5.lt
      clear HX hov hkl hrr
      subst hkL
      go_wp2_with fail
      refine hso.mono ?_
      rintro e w5 ⟨A5, c5, rfl, ho5, hb5⟩
      have Y6 := Y5.after hb5
      have hw5 := hwr.trans (hb5.mono hwr.size)
      obtain ⟨y0, y1⟩ := Y6.cells2
      have f0 := Y6.frozen 0
      have f1 := Y6.frozen 1
      obtain ⟨q0, q1, q2, q3⟩ := fin_store (v := (v : Int)) Y6 hw5 ho5 hDr
      have Q := Lib.hid (And.intro q0 q1)
      clear q0 q1 hso
      go_wp2
      exact bodyPost_ret (v := .tuple #[.agg #[.int .i64 (v : Int), .slice A5 L.length c5], .int .i64 0]) (by simp [results, Tryz.results89, go_sem, q2, q3]) rfl ⟨A5, L.length, c5, rfl, Q.out.1, Q.out.2⟩
theorem OI.setMid {w : World} {B : Nat} {e : TypeId} {A : Option Addr} {n c : Nat} {zs ys : List Int} {w' : World} (h : OI w B e A n c zs) (_ : OI w' B e A n c ys) (hg : w.grownBy w' (blk A)) {D : Nat} (hD : ∀ b, blk A = some b → b < D) : Mid w w' B D :=
  Mid.grown hg fun b hb => ⟨(h.os.lt hb).1, hD b hb⟩
set_option maxHeartbeats 400000 in
theorem markInt64S_own (B : Nat) (e : TypeId) (A : Option Addr) (n c k : Nat) (zs : List Int) (w : World) (ha : OI w B e A n c zs) (hn : k + n ≤ 4611686018427387904) :
    Calls Tryz.prog 55 #[.slice A n c, .int .i64 k] w fun en w' => en = .returned (.int .i64 ((k + n : Nat) : Int)) ∧ OI w' B e A n c (marks k n) ∧ w.grownBy w' (blk A) := by
  have hl := Lib.hid ha.len
  go_enter Tryz.func55, Tryz.ntmps55
  go_wp2
  go_loopw [1, 5] (fun q i wr => ∃ j : Nat, j ≤ n ∧ i = .int .i64 j ∧ q = .int .i64 ((k + j : Nat) : Int) ∧ OI wr B e A n c (marked k zs j) ∧ w.grownBy wr (blk A)) (fun _ i _ => n - (intOf i).toNat)
  case atStart => exact ⟨0, Nat.zero_le _, rfl, by simp, by rw [marked_zero]; exact ha, World.grownBy.refl _ _⟩
  case round =>
    obtain ⟨j, hj, rfl, rfl, ho, hw⟩ := hrel
    by_cases hlt : j < n
    · obtain ⟨g, rfl, hca, hfa, hia⟩ := ho.cell hlt
      have ho' := ho.set j (u := ((k + j : Nat) : Int)) ⟨by omega, by omega⟩
      rw [marked_step (by rw [hl.out]; exact hlt)] at ho'
      have hw' : w.grownBy (wr.setCell ⟨g, j, none⟩ (.int .i64 ((k + j : Nat) : Int))) (blk (some ⟨g, 0, none⟩)) :=
        hw.trans ⟨rfl, rfl, rfl, by simp [World.setCell], fun b _ hb => Below.heap_setCell _ _ _ _ (fun e => hb (by rw [e]; rfl))⟩
      clear ho hw
      go_wp2
      go_roundw
      case rel => exact ⟨j + 1, by omega, by go_num, by go_num, ho', hw'⟩
      case measure => simp [intOf]; omega
    · obtain rfl : j = n := by omega
      have ho' : OI wr B e A j c (marks k j) := by rw [← hl.out]; rw [← hl.out] at ho; rw [marked_all] at ho; exact ho
      go_wp2
      go_ret
      exact ⟨rfl, ho', hw⟩
set_option maxHeartbeats 1000000 in
theorem markInt64SS_any (B D : Nat) (e2 e1 : TypeId) (A : Option Addr) (n c k : Nat) (zss : List (List Int)) (w : World) (ha : ORd w B D e2 e1 A n c zss) (hc : n ≤ 1099511627776) (hn : k + cells zss ≤ 4611686018427387904) :
    Calls Tryz.prog 35 #[.slice A n c, .int .i64 k] w fun en w' => en = .returned (.int .i64 ((k + cells zss : Nat) : Int)) ∧ ORd w' B D e2 e1 A n c (marksR k zss) ∧ Mid w w' B D := by
  have hl := Lib.hid ha.len
  have HC := Lib.hid (show ∀ j, j < n → cells (zss.take j) + (row zss j).length = cells (zss.take (j + 1)) ∧ cells (zss.take (j + 1)) ≤ cells zss from fun j hj => ⟨(cells_take zss (by rw [hl.out]; exact hj)).symm, cells_le _ _⟩)
  go_enter Tryz.func35, Tryz.ntmps35
  go_wp2
  go_loopw [1, 5] (fun q i wr => ∃ j : Nat, j ≤ n ∧ i = .int .i64 j ∧ q = .int .i64 ((k + cells (zss.take j) : Nat) : Int) ∧ ORd wr B D e2 e1 A n c (markedR k zss j) ∧ Mid w wr B D) (fun _ i _ => n - (intOf i).toNat)
  case atStart => exact ⟨0, Nat.zero_le _, rfl, by simp [cells], by rw [markedR_zero]; exact ha, Mid.refl _ _ _⟩
  case round =>
    obtain ⟨j, hj, rfl, rfl, ⟨vs, ho⟩, hw⟩ := hrel
    by_cases hlt : j < n
    · obtain ⟨hc1, hc2⟩ := HC.out j hlt
      obtain ⟨g, v, rfl, hv, hca, hfa, hr⟩ := ho.orv.get hlt
      have hre := markedR_row (k := k) (zss := zss) (j := j) (by rw [hl.out]; exact hlt)
      rw [hre] at hr
      have hlen := Lib.hid hr.len
      have hst := Lib.hid (markedR_step (k := k) (zss := zss) (j := j) (by rw [hl.out]; exact hlt))
      have hlr : v.2.1 = (row zss j).length := hlen.out.symm
      have hk1 : k + cells (zss.take j) + v.2.1 ≤ 4611686018427387904 := by omega
      have HE := Lib.hid (show k + cells (zss.take j) + v.2.1 = k + cells (zss.take (j + 1)) by omega)
      clear hre hlr hc1 hc2
      have hcall := markInt64S_own B e1 v.1 v.2.1 v.2.2 (k + cells (zss.take j)) (row zss j) wr hr hk1
      generalize hkc : k + cells (zss.take j) = kc at *
      have HK := Lib.hid hkc; clear hkc
      go_wp2_with fail
      refine hcall.mono ?_
      rintro e w1 ⟨rfl, ho1, hg1⟩
      have hnew := ho.orv.wrote hv hg1 ho1
      rw [hlen.out.symm, hst.out] at hnew
      have hm := hw.trans (OI.setMid hr ho1 hg1 (D := D) (fun b hb => ho.ltr j v b hv hb))
      have hnew' : ORd w1 B D e2 e1 (some ⟨g, 0, none⟩) n c (markedR k zss (j + 1)) := ⟨vs, hnew, ho.lt, ho.ltr⟩
      clear hnew ho ho1 hg1 hcall hr hca hfa
      go_wp2
      go_roundw
      case rel => exact ⟨j + 1, by omega, by go_num, by rw [← HE.out]; go_num, hnew', hm⟩
      case measure => simp [intOf]; omega
    · obtain rfl : j = n := by omega
      have q1 : cells (zss.take j) = cells zss := by rw [← hl.out, List.take_length]
      have ho' : ORd wr B D e2 e1 A j c (marksR k zss) := ⟨vs, by have e : markedR k zss j = marksR k zss := by rw [← hl.out, markedR_all]
                                                                  rw [e] at ho; exact ho⟩
      have E1 := Lib.hid q1; clear q1 ho
      go_wp2
      go_ret
      exact ⟨by rw [E1.out]; first | rfl | exact ret_int (by omega), ho', hw⟩
set_option maxHeartbeats 1000000 in
theorem heldInt64SS_any (A : Option Addr) (n c k : Nat) (zss : List (List Int)) (w : World) (ha : RR w A n (marksR k zss)) (hc : n ≤ 1099511627776) (hn : k + cells zss ≤ 4611686018427387904) :
    Calls Tryz.prog 36 #[.slice A n c, .int .i64 k] w fun en w' => en = .returned (.int .i64 ((k + cells zss : Nat) : Int)) ∧ w = w' := by
  have hl := Lib.hid (show zss.length = n by rw [← marksR_len k]; exact ha.len)
  have HC := Lib.hid (show ∀ j, j < n → cells (zss.take j) + (row zss j).length = cells (zss.take (j + 1)) ∧ cells (zss.take (j + 1)) ≤ cells zss from fun j hj => ⟨(cells_take zss (by rw [hl.out]; exact hj)).symm, cells_le _ _⟩)
  go_enter Tryz.func36, Tryz.ntmps36
  go_wp2
  go_loop [1, 5] (fun q i => ∃ j : Nat, j ≤ n ∧ i = .int .i64 j ∧ q = .int .i64 ((k + cells (zss.take j) : Nat) : Int)) (fun _ i => n - (intOf i).toNat)
  case atStart => exact ⟨0, Nat.zero_le _, rfl, by simp [cells]⟩
  case round =>
    obtain ⟨j, hj, rfl, rfl⟩ := hrel
    by_cases hlt : j < n
    · obtain ⟨hc1, hc2⟩ := HC.out j hlt
      obtain ⟨a, A1, n1, c1, rfl, hca, hn1, hc3, ha1⟩ := ha.get hlt
      rw [marksR_row k zss (by rw [hl.out]; exact hlt)] at ha1
      have hn1' : (row zss j).length = n1 := by rw [← ha1.len, marks_len]
      have hk1 : k + cells (zss.take j) + n1 ≤ 4611686018427387904 := by omega
      have HE := Lib.hid (show k + cells (zss.take j) + n1 = k + cells (zss.take (j + 1)) by omega)
      rw [hn1'] at ha1
      clear hc1 hc2 hn1'
      generalize hkc : k + cells (zss.take j) = kc at *
      have HK := Lib.hid hkc; clear hkc
      go_wp2_with fail
      refine (heldInt64S_any A1 n1 c1 kc _ ha1 hk1).mono ?_
      rintro e w' ⟨rfl, rfl⟩
      go_wp2
      go_round
      case rel => exact ⟨j + 1, by omega, by go_num, by rw [← HE.out]; go_num⟩
      case measure => simp [intOf]; omega
    · obtain rfl : j = n := by omega
      have E1 := Lib.hid (show cells (zss.take j) = cells zss by rw [← hl.out, List.take_length])
      go_wp2
      go_ret
      exact ⟨by rw [E1.out]; first | rfl | exact ret_int (by omega), rfl⟩
end Go.Proofs.YtnmcmologlgccaaGreat
