/- Drawn partial squares: spec.l09Candidates, l09DrawPartial. No condition beyond those stated. -/
import Derived.Test.YtcnjlkabdfcjdaaZAO
import Derived.Test.YtcnjlkabdfcjdaaZAI
import Derived.Test.YtcnjlkabdfcjdaaZAP
set_option linter.unusedVariables false
set_option linter.unusedSimpArgs false
namespace Go.Proofs.Ytcnjlkabdfcjdaa
open Go.RowKit

set_option maxRecDepth 100000 in
set_option maxHeartbeats 2000000 in
theorem l09Candidates_any (A : Option Addr) (n c x y : Nat) (p : List (List Int)) (w : World) (ha : RR w A n p) (hn : n ≤ 1000) (hx : x < n) (hy : y < n) (hs : ∀ i, i < n → (row p i).length = n) :
    Calls Try.prog 98 #[.slice A n c, .int .i64 x, .int .i64 y] w fun e w' => ∃ LA ln lc zs, e = .returned (.slice LA ln lc) ∧ OI w' w.heap.size 2 LA ln lc zs ∧ ln ≤ n ∧ Below w.heap.size w w' := by
  obtain ⟨ad, RX, rn, rc, rfl, hcx, hrn, hrc, hRX⟩ := ha.get hx
  obtain rfl : rn = n := by rw [← hRX.len]; exact hs x hx
  have HS := Lib.hid hs
  clear hs
  have hb1 := below_alloc w (.cells #[] 2)
  have ho1 : OI (w.alloc (.cells #[] 2)) w.heap.size 2 (some ⟨w.heap.size, 0, none⟩) 0 0 [] := by simpa [ints] using OI.lit w w.heap.size 2 [] (Nat.le_refl _) (by simp) (by simp [All64])
  go_enter Try.func98, Try.ntmps98
  go_wp2
  go_loopw [8, 9, 10, 11] (fun l i _ _ wr => ∃ (v : Nat) (LA : Option Addr) (ln lc : Nat) (zs : List Int), v ≤ rn ∧ i = .int .i64 v ∧ l = .slice LA ln lc ∧ OI wr w.heap.size 2 LA ln lc zs ∧ ln ≤ v ∧ Below w.heap.size w wr) (fun _ i _ _ _ => rn - (intOf i).toNat)
  case atStart => exact ⟨0, _, 0, 0, [], Nat.zero_le _, rfl, rfl, ho1, Nat.le_refl _, hb1⟩
  case round =>
    clear ho1 hb1
    obtain ⟨v, LA, ln, lc, zs, hv, rfl, rfl, ho, hle, hb⟩ := hrel
    by_cases hlt : v < rn
    · have hRX1 := hRX.keep hb
      have ha1 := ha.keep hb
      have hcx1 := below_cell hb hcx
      have HO := Lib.hid ho
      have HB := Lib.hid hb
      have hv64 : I64 (v : Int) := by unfold I64; omega
      clear hcx ho hb
      generalize hwr : wr = wo at *
      clear hwr
      go_wp2
      go_loopw [10, 11] (fun b i wr => ∃ (k : Nat) (f : Bool), k ≤ rn ∧ i = .int .i64 k ∧ b = .bool f ∧ wo = wr) (fun _ i _ => rn - (intOf i).toNat)
      case atStart => exact ⟨0, true, Nat.zero_le _, rfl, rfl, by trivial⟩
      case round =>
        obtain ⟨k, f, hk, rfl, rfl, rfl⟩ := hrel
        by_cases hkl : k < rn
        · obtain ⟨ax, rfl, hcz, -⟩ := hRX1.get hkl
          obtain ⟨ad', RK, kn, kc, had, hck, hkn, hkc, hRK⟩ := ha1.get hkl
          cases had
          obtain rfl : kn = rn := by rw [← hRK.len]; exact HS.out k hkl
          obtain ⟨ak, rfl, hcy, -⟩ := hRK.get hy
          generalize nth (row p x) k = z1 at *
          generalize nth (row p k) y = z2 at *
          cases e1 : (z1 == (v : Int)) with
          | true =>
            go_wp2
            go_roundw
            case rel => exact ⟨k + 1, false, by omega, by go_num, rfl, by trivial⟩
            case measure => simp [intOf]; omega
          | false =>
            cases e2 : (z2 == (v : Int)) with
            | true =>
              go_wp2
              go_roundw
              case rel => exact ⟨k + 1, false, by omega, by go_num, rfl, by trivial⟩
              case measure => simp [intOf]; omega
            | false =>
              go_wp2
              go_roundw
              case rel => exact ⟨k + 1, f, by omega, by go_num, rfl, by trivial⟩
              case measure => simp [intOf]; omega
        · cases f with
          | true =>
            have hbs := HB.out.size
            go_wp2_with (at_builtin; refine app_int _ rfl (.tmp 46) (.tmp 48) rfl w.heap.size LA ln lc zs rfl HO.out (v : Int) wo.heap.size rfl rfl hv64 (by omega) (by omega) ?_; intro A5 c5 w5 ho5 hg5 hf5; have hb5 := Lib.hid (below_own HB.out hg5 (by omega) (fun b hb => (HO.out.os.lt hb).1)))
            go_roundw
            case rel => exact ⟨v + 1, A5, ln + 1, c5, _, by omega, by go_num, rfl, ho5, by omega, hb5.out⟩
            case measure => simp [intOf]; omega
          | false =>
            go_wp2
            go_roundw
            case rel => exact ⟨v + 1, LA, ln, lc, zs, by omega, by go_num, rfl, HO.out, by omega, HB.out⟩
            case measure => simp [intOf]; omega
    · go_wp2
      go_ret
      exact ⟨LA, ln, lc, zs, rfl, ho, by omega, hb⟩
theorem rows_few' {zss : List (List Int)} {n : Nat} (hl : zss.length = n) (hn : n ≤ 10) (h : ∀ z ∈ zss, z.length ≤ 10) : cells zss ≤ 1099511627776 := by
  have := cells_under h
  omega
/-- rows of one shape that a call draws -/
structure DPs (w wr : World) (g q : Nat) (A : Option Addr) (n c : Nat) (zss : List (List Int)) : Prop where
  o : OR wr w.heap.size 30 2 A n c zss
  sh : ∀ i, i < n → (row zss i).length = n
  s : SrW w wr g q
section
variable {w wr w' : World} {g q q' : Nat} {A : Option Addr} {n c : Nat} {zss : List (List Int)}
theorem DPs.draw (h : DPs w wr g q A n c zss) (hs : Src w' g q') (hg : wr.grownBy w' (some g)) : DPs w w' g q' A n c zss := ⟨h.o.keptB hg h.s.gl, h.sh, h.s.next hs hg⟩
theorem DPs.step (h : DPs w wr g q A n c zss) (hb : Below wr.heap.size wr w') : DPs w w' g q A n c zss := ⟨h.o.below hb, h.sh, h.s.step hb⟩
theorem DPs.cell (h : DPs w wr g q A n c zss) {i j : Nat} (hi : i < n) (hj : j < n) :
    ∃ ga r k, A = some ⟨ga, 0, none⟩ ∧ (wr.cell? ⟨ga, i, none⟩ = some (.slice (some ⟨r, 0, none⟩) n k) ∧ wr.frozen? ⟨ga, i, none⟩ = false) ∧ (n ≤ k ∧ k ≤ 9223372036854775807) ∧ (wr.cell? ⟨r, j, none⟩ = some (.int .i64 (nth (row zss i) j)) ∧ wr.frozen? ⟨r, j, none⟩ = false ∧ I64 (nth (row zss i) j)) ∧ (w.heap.size ≤ r ∧ ga ≠ g ∧ r ≠ g) ∧
      ∀ u, I64 u → DPs w (wr.setCell ⟨r, j, none⟩ (.int .i64 u)) g q A n c (zss.set i ((row zss i).set j u)) := by
  obtain ⟨vs, hv⟩ := h.o
  obtain ⟨ga, r, m, k, ha, co, fo, hm, mle, k1, ci, fi, br, rl, iz, hset⟩ := hv.at2 hi (j := j) (by rw [h.sh i hi]; exact hj)
  have hgl := h.s.gl
  obtain rfl : m = n := by rw [← hm]; exact h.sh i hi
  refine ⟨ga, r, k, ha, ⟨co, fo⟩, ⟨mle, k1⟩, ⟨ci, fi, iz⟩, ⟨br, fun e => ?_, by omega⟩, fun u hu => ⟨⟨vs, hset u hu⟩, fun t ht => ?_, h.s.far (grown_set (g := r) (p := j) (u := .int .i64 u)) (fun b hb => by injection hb with hb; omega)⟩⟩
  · have := (hv.os.lt (k := ga) (by rw [ha]; rfl)).1
    omega
  · have hil : i < zss.length := by rw [hv.slen]; exact hi
    by_cases e : t = i
    · subst e
      have : row (zss.set t ((row zss t).set j u)) t = (row zss t).set j u := by
        rw [row_get (by rw [List.length_set]; exact hil), List.getElem_set_self]
      rw [this, List.length_set]
      exact h.sh t hi
    · have : row (zss.set i ((row zss i).set j u)) t = row zss t := by
        unfold row
        simp only [List.getD_eq_getElem?_getD]
        rw [List.getElem?_set_ne (fun e2 => e e2.symm)]
      rw [this]
      exact h.sh t ht
end
/-- a call that draws rows of one shape -/
def RetDQ (w : World) (g p n k : Nat) (e : Ending) (w' : World) : Prop := ∃ A c zss q, e = .returned (.slice A n c) ∧ DPs w w' g q A n c zss ∧ q ≤ p + k
set_option maxRecDepth 100000 in
set_option maxHeartbeats 4000000 in
theorem l09DrawPartial_any (g p n : Nat) (w : World) (hs : Src w g p) (hp : p ≤ 1099511627776) (hn1 : 1 ≤ n) (hn : n ≤ 10) :
    Calls Try.prog 77 #[.pointer (some ⟨g, 0, none⟩), .int .i64 n] w (RetDQ w g p n 1000) := by
  have hnn := Nat.mul_le_mul hn hn
  have hn2 : IntKind.i64.wrap ((n : Int) * (n : Int)) = ((n * n : Nat) : Int) := by
    rw [IntKind.wrap_i64]
    have : ((n * n : Nat) : Int) = (n : Int) * (n : Int) := by push_cast; rfl
    rw [← this]
    omega
  have HDV := Lib.hid (fun c (hc : c < n * n) => (show (c / n < n ∧ c % n < n) ∧ IntKind.i64.wrap ((c : Int) / (n : Int)) = ((c / n : Nat) : Int) ∧ Int.tmod (c : Int) (n : Int) = ((c % n : Nat) : Int) from by
    obtain ⟨h1, h2⟩ := cell_bd hc
    refine ⟨⟨h1, h2⟩, ?_, rfl⟩
    rw [show (c : Int) / (n : Int) = ((c / n : Nat) : Int) from rfl]
    generalize c / n = d at h1 ⊢
    rw [IntKind.wrap_i64]
    omega))
  generalize hN : n * n = N at *
  clear hN
  go_enter Try.func77, Try.ntmps77
  go_wp2_with fail
  refine (l06DrawSquare_any g p n w hs (by omega) hn1 hn).mono ?_
  rintro e w1 ⟨A0, c0, zss0, q0, rfl, ho0, hl0, hS0, S0, hq0⟩
  have hrl := sq_rows hS0
  go_wp2_with fail
  refine (l06Own_any A0 n c0 zss0 w1 ho0.reads (by omega) (rows_few' hl0 hn hrl)).mono ?_
  rintro e w2 ⟨A, n2, c, rfl, ho, hb2⟩
  obtain rfl : n2 = n := by rw [← ho.len, hl0]
  have D : DPs w w2 g q0 A n2 c zss0 := ⟨ho.more S0.size, fun i hi => by have := (hS0.2.2.1 i (by omega)).1; omega, S0.step hb2⟩
  clear ho0 hS0 S0 hrl ho hb2 hl0 hs
  go_wp2_with fail
  refine (pick_any g q0 5 w2 D.s.src (by omega) (by omega) (by omega)).mono ?_
  rintro e w3 ⟨kind, q3, rfl, k0, k1, hq3, hs3, hg3⟩
  have D := D.draw hs3 hg3
  clear hs3 hg3
  obtain ⟨kn, rfl⟩ := Int.eq_ofNat_of_zero_le k0
  have hkn : kn ≤ 4 := by omega
  clear k0 k1
  go_wp2
  go_loopw [7, 8] (fun i _ wr => ∃ (k q : Nat) (zss : List (List Int)), k ≤ N ∧ i = .int .i64 k ∧ DPs w wr g q A n2 c zss ∧ q ≤ q3 + 4 * k) (fun i _ _ => N - (intOf i).toNat)
  case atStart => exact ⟨0, q3, zss0, Nat.zero_le _, rfl, D, by omega⟩
  case round =>
    clear D
    obtain ⟨k, q, zss, hk, rfl, D, hq⟩ := hrel
    by_cases hlt : k < N
    · obtain ⟨⟨hx, hy⟩, hdv, hmd⟩ := HDV.out k hlt
      go_wp2_with fail
      refine (pick_any g q 10 wr D.s.src (by omega) (by omega) (by omega)).mono ?_
      rintro e w4 ⟨z, q4, rfl, z0, z1, hq4, hs4, hg4⟩
      have D := D.draw hs4 hg4
      clear hs4 hg4
      go_upto_if 32 with (fail)
      go_cut [8] (fun s8 wx => ∃ (b : Bool) (q5 : Nat), s8 = .bool b ∧ q5 ≤ q4 + 2 ∧ DPs w wx g q5 A n2 c zss)
      case first =>
        by_cases e4 : kn = 4
        · have e4b : ((kn : Int) == 4) = true := by simp; omega
          clear e4
          go_wp2_with fail
          refine (one_any g q4 6 w4 D.s.src (by omega) (by omega) (by omega)).mono ?_
          rintro e w5 ⟨b5, q5, rfl, hq5, hs5, hg5⟩
          have D := D.draw hs5 hg5
          go_wp2
          go_meet
          exact ⟨!b5, q5, rfl, hq5, D⟩
        · have e4b : ((kn : Int) == 4) = false := by simp; omega
          clear e4
          go_wp2
          go_meet
          exact ⟨_, q4, rfl, by omega, D⟩
      case rest =>
        clear D
        obtain ⟨b, q5, rfl, hq5, D⟩ := hcut
        cases b with
        | false =>
          go_wp2
          go_roundw
          case rel => exact ⟨k + 1, q5, zss, by omega, by go_num, D, by omega⟩
          case measure => simp [intOf]; omega
        | true =>
          obtain ⟨ga, r, kk, rfl, ⟨co, fo⟩, ⟨kl1, kl2⟩, ⟨ci, fi, -⟩, ⟨hr0, hg1, hg2⟩, hset⟩ := D.cell hx hy
          have hdr : Below wc.heap.size wc wc.drew := by have := below_drewn wc 1; rwa [← World.drew_is_drewN] at this
          obtain ⟨ga', r', kk', hga, ⟨co', fo'⟩, ⟨kl1', kl2'⟩, ⟨ci', fi', -⟩, -, hset'⟩ := (D.step hdr).cell hx hy
          injection hga with hga
          injection hga with hga
          subst hga
          have D9 := hset' (-1) (by unfold I64; omega)
          have hn0 : ¬ n2 = 0 := by omega
          generalize k / n2 = x at *
          generalize k % n2 = y at *
          go_wp2
          refine region_suf (P := Try.prog) (n := 9) (S := fun w' => w'.cell? ⟨ga, x, none⟩ = some (.slice (some ⟨r', 0, none⟩) n2 kk')) (by kernel_rfl) (by simp only [List.take_succ_cons, List.take_zero]; rfl) (by simp only [List.drop_succ_cons, List.drop_zero]; rfl) (by kernel_rfl) (by simpa using co') ?_
          intro hS0
          generalize wc.drew = W2 at *
          refine wpAnyH_take (i := 0) (v := ?_) rfl (by kernel_rfl) (by kernel_rfl) (by kernel_rfl) (fun _ _ _ h => h) (Or.inl ⟨by rfl, ?_⟩) (by assumption) ?_
          rotate_left
          · (intro w hSw; (try dsimp only at hSw); go_simp; (try with_reducible rfl))
          simp only [Act.put, List.setIfInBounds_toArray, List.set_cons_zero, List.set_cons_succ]
          refine wpAnyH_take (i := 1) (v := ?_) rfl (by kernel_rfl) (by kernel_rfl) (by kernel_rfl) (fun _ _ _ h => h) (Or.inl ⟨by rfl, ?_⟩) (by assumption) ?_
          rotate_left
          · (intro w hSw; (try dsimp only at hSw); go_simp; (try with_reducible rfl))
          simp only [Act.put, List.setIfInBounds_toArray, List.set_cons_zero, List.set_cons_succ]
          refine wpAnyH_take (i := 2) (v := ?_) rfl (by kernel_rfl) (by kernel_rfl) (by kernel_rfl) (fun _ _ _ h => h) (Or.inl ⟨by rfl, ?_⟩) (by assumption) ?_
          rotate_left
          · (intro w hSw; (try dsimp only at hSw); go_simp; (try with_reducible rfl))
          simp only [Act.put, List.setIfInBounds_toArray, List.set_cons_zero, List.set_cons_succ]
          refine wpAnyH_take (i := 3) (v := ?_) rfl (by kernel_rfl) (by kernel_rfl) (by kernel_rfl) (fun _ _ _ h => h) (Or.inl ⟨by rfl, ?_⟩) (by assumption) ?_
          rotate_left
          · (intro w hSw; (try dsimp only at hSw); go_simp; (try with_reducible rfl))
          simp only [Act.put, List.setIfInBounds_toArray, List.set_cons_zero, List.set_cons_succ]
          refine wpAnyH_take (i := 4) (v := ?_) rfl (by kernel_rfl) (by kernel_rfl) (by kernel_rfl) (fun _ _ _ h => h) (Or.inl ⟨by rfl, ?_⟩) (by assumption) ?_
          rotate_left
          · (intro w hSw; (try dsimp only at hSw); go_simp; (try with_reducible rfl))
          simp only [Act.put, List.setIfInBounds_toArray, List.set_cons_zero, List.set_cons_succ]
          refine wpAnyH_take (i := 5) (v := ?_) rfl (by kernel_rfl) (by kernel_rfl) (by kernel_rfl) (fun _ _ _ h => h) (Or.inl ⟨by rfl, ?_⟩) (by assumption) ?_
          rotate_left
          · (intro w hSw; (try dsimp only at hSw); go_simp; (try with_reducible rfl))
          simp only [Act.put, List.setIfInBounds_toArray, List.set_cons_zero, List.set_cons_succ]
          refine wpAnyH_take (i := 6) (v := ?_) rfl (by kernel_rfl) (by kernel_rfl) (by kernel_rfl) (fun _ _ _ h => h) (Or.inl ⟨by rfl, ?_⟩) (by assumption) ?_
          rotate_left
          · (intro w hSw; (try dsimp only at hSw); go_simp; (try with_reducible rfl))
          simp only [Act.put, List.setIfInBounds_toArray, List.set_cons_zero, List.set_cons_succ]
          refine wpAnyH_take (i := 7) (v := ?_) rfl (by kernel_rfl) (by kernel_rfl) (by kernel_rfl) (fun _ _ _ h => h) (Or.inl ⟨by rfl, ?_⟩) (by assumption) ?_
          rotate_left
          · (intro w hSw; (try dsimp only at hSw); go_simp; (try with_reducible rfl))
          simp only [Act.put, List.setIfInBounds_toArray, List.set_cons_zero, List.set_cons_succ]
          refine wpAnyH_take (i := 8) (v := ?_) rfl (by kernel_rfl) (by kernel_rfl) (by kernel_rfl) (fun _ _ _ h => h) (Or.inl ⟨by rfl, ?_⟩) (by assumption) ?_
          rotate_left
          · (intro w hSw; (try dsimp only at hSw); go_simp; (try with_reducible rfl))
          simp only [Act.put, List.setIfInBounds_toArray, List.set_cons_zero, List.set_cons_succ]
          refine wpAnyH_done (by kernel_rfl) ?_ _
          dsimp only [atEnd]
          clear co fo ci fi hset hset' D hdr hS0
          go_wp2
          go_roundw
          case rel => exact ⟨k + 1, q5, _, by omega, by go_num, D9, by omega⟩
          case measure => simp [intOf]; omega
    · have hq6 : q ≤ p + 600 := by omega
      clear HDV hq
      go_wp2_with fail
      refine (one_any g q 4 wr D.s.src (by omega) (by omega) (by omega)).mono ?_
      rintro e w4 ⟨b4, q4, rfl, hq4, hs4, hg4⟩
      have D := D.draw hs4 hg4
      clear hs4 hg4
      cases b4 with
      | false =>
        go_wp2
        go_ret
        exact ⟨A, c, zss, q4, rfl, D, by omega⟩
      | true =>
        go_wp2_with fail
        refine (pick_any g q4 n2 w4 D.s.src (by omega) (by omega) (by omega)).mono ?_
        rintro e w5 ⟨x, q5, rfl, x0, x1, hq5, hs5, hg5⟩
        have D := D.draw hs5 hg5
        clear hs5 hg5
        go_wp2_with fail
        refine (pick_any g q5 n2 w5 D.s.src (by omega) (by omega) (by omega)).mono ?_
        rintro e w6 ⟨y, q6, rfl, y0, y1, hq6, hs6, hg6⟩
        have D := D.draw hs6 hg6
        clear hs6 hg6
        obtain ⟨x, rfl⟩ := Int.eq_ofNat_of_zero_le x0
        obtain ⟨y, rfl⟩ := Int.eq_ofNat_of_zero_le y0
        have hx : x < n2 := by omega
        have hy : y < n2 := by omega
        obtain ⟨ga, r, kk, rfl, ⟨co, fo⟩, ⟨kl1, kl2⟩, ⟨ci, fi, -⟩, ⟨hr0, hg1, hg2⟩, hset⟩ := D.cell hx hy
        clear hset x0 x1 y0 y1
        generalize nth (row zss x) y = u at *
        by_cases hu : u < 0
        · go_wp2_with fail
          refine (l09Candidates_any (some ⟨ga, 0, none⟩) n2 c x y zss w6 D.o.reads (by omega) hx hy D.sh).mono ?_
          rintro e w7 ⟨LA, ln, lc, zs, rfl, hol, hll, hb7⟩
          have hgl6 := D.s.src.lt
          have D := D.step hb7
          by_cases hz : ln = 0
          · subst hz
            clear ci fi co fo hol
            go_wp2
            go_ret
            exact ⟨_, c, zss, q6, rfl, D, by omega⟩
          · have hz' : 0 < ln := by omega
            obtain ⟨ga', r', kk', hga, ⟨co', fo'⟩, ⟨kl1', kl2'⟩, -, ⟨hr0', -, hg2'⟩, -⟩ := D.cell hx hy
            injection hga with hga
            injection hga with hga
            subst hga
            have hdr : Below w7.heap.size w7 w7.drew := by have := below_drewn w7 1; rwa [← World.drew_is_drewN] at this
            have D8 := D.step hdr
            have hr8 := (hol.below hdr).reads
            have hla : ∀ a, LA = some a → a.block ≠ g := fun a ha => by have := (hol.os.lt (k := a.block) (by rw [ha]; rfl)).1; intro e; omega
            clear ci fi co fo hz hu
            go_wp2
            refine region_suf (P := Try.prog) (n := 8) (S := fun w' => w'.cell? ⟨ga, x, none⟩ = some (.slice (some ⟨r', 0, none⟩) n2 kk')) (by kernel_rfl) (by simp only [List.take_succ_cons, List.take_zero]; rfl) (by simp only [List.drop_succ_cons, List.drop_zero]; rfl) (by kernel_rfl) (by simpa using co') ?_
            intro hS0
            generalize w7.drew = W8 at *
            refine wpAnyH_take (i := 0) (v := ?_) rfl (by kernel_rfl) (by kernel_rfl) (by kernel_rfl) (fun _ _ _ h => h) (Or.inl ⟨by rfl, ?_⟩) (by assumption) ?_
            rotate_left
            · (intro w hSw; (try dsimp only at hSw); go_simp; (try with_reducible rfl))
            simp only [Act.put, List.setIfInBounds_toArray, List.set_cons_zero, List.set_cons_succ]
            refine wpAnyH_take (i := 1) (v := ?_) rfl (by kernel_rfl) (by kernel_rfl) (by kernel_rfl) (fun _ _ _ h => h) (Or.inl ⟨by rfl, ?_⟩) (by assumption) ?_
            rotate_left
            · (intro w hSw; (try dsimp only at hSw); go_simp; (try with_reducible rfl))
            simp only [Act.put, List.setIfInBounds_toArray, List.set_cons_zero, List.set_cons_succ]
            refine wpAnyH_take (i := 2) (v := ?_) rfl (by kernel_rfl) (by kernel_rfl) (by kernel_rfl) (fun _ _ _ h => h) (Or.inl ⟨by rfl, ?_⟩) (by assumption) ?_
            rotate_left
            · (intro w hSw; (try dsimp only at hSw); go_simp; (try with_reducible rfl))
            simp only [Act.put, List.setIfInBounds_toArray, List.set_cons_zero, List.set_cons_succ]
            refine wpAnyH_take (i := 3) (v := ?_) rfl (by kernel_rfl) (by kernel_rfl) (by kernel_rfl) (fun _ _ _ h => h) (Or.inl ⟨by rfl, ?_⟩) (by assumption) ?_
            rotate_left
            · (intro w hSw; (try dsimp only at hSw); go_simp; (try with_reducible rfl))
            simp only [Act.put, List.setIfInBounds_toArray, List.set_cons_zero, List.set_cons_succ]
            refine wpAnyH_take (i := 4) (v := ?_) rfl (by kernel_rfl) (by kernel_rfl) (by kernel_rfl) (fun _ _ _ h => h) (Or.inl ⟨by rfl, ?_⟩) (by assumption) ?_
            rotate_left
            · (intro w hSw; (try dsimp only at hSw); go_simp; (try with_reducible rfl))
            simp only [Act.put, List.setIfInBounds_toArray, List.set_cons_zero, List.set_cons_succ]
            refine wpAnyH_take (i := 5) (v := ?_) rfl (by kernel_rfl) (by kernel_rfl) (by kernel_rfl) (fun _ _ _ h => h) (Or.inl ⟨by rfl, ?_⟩) (by assumption) ?_
            rotate_left
            · (intro w hSw; (try dsimp only at hSw); go_simp; (try with_reducible rfl))
            simp only [Act.put, List.setIfInBounds_toArray, List.set_cons_zero, List.set_cons_succ]
            refine wpAnyH_take (i := 6) (v := ?_) rfl (by kernel_rfl) (by kernel_rfl) (by kernel_rfl) (fun _ _ _ h => h) (Or.inl ⟨by rfl, ?_⟩) (by assumption) ?_
            rotate_left
            · (intro w hSw; (try dsimp only at hSw); go_simp; (try with_reducible rfl))
            simp only [Act.put, List.setIfInBounds_toArray, List.set_cons_zero, List.set_cons_succ]
            refine wpAnyH_ready (rs := [7]) (by kernel_rfl) (by simp) ?_
            refine AllReadyH.cons rfl (fun K hK => ?_) AllReadyH.nil
            go_simp
            refine (among_any g q6 LA ln lc zs W8 D8.s.src (by omega) hr8 hla (by omega) (by omega)).mono ?_
            rintro e w9 ⟨z, q9, rfl, hz9, hq9, hs9, hg9⟩
            have hz64 : I64 z := hol.all z hz9
            have D9 := D8.draw hs9 hg9
            obtain ⟨ga', r9, kk9, hga, ⟨co9, fo9⟩, ⟨kl19, kl29⟩, ⟨ci9, fi9, -⟩, -, hset9⟩ := D9.cell hx hy
            injection hga with hga
            injection hga with hga
            subst hga
            have D10 := hset9 z hz64
            have hc9 := hg9.cell hS0 (fun e => hg1 (by injection e))
            have e9 := co9.symm.trans hc9
            injection e9 with e9
            injection e9 with e9 e9b e9c
            injection e9 with e9
            injection e9 with e9
            subst e9 e9c
            dsimp only
            refine hK.out _ _ hc9 (fun hS1 => ?_)
            clear hK K hS0
            refine wpAnyH_done (by kernel_rfl) ?_ _
            dsimp only [atEnd]
            clear hset9 hS1 hs9 hg9 hol hr8 co' fo' hc9
            go_wp2
            go_ret
            exact ⟨_, c, _, q9, rfl, D10, by omega⟩
        · have hu' : ¬ u < 0 := hu
          go_wp2
          go_ret
          exact ⟨_, c, zss, q6, rfl, D, by omega⟩
end Go.Proofs.Ytcnjlkabdfcjdaa
/- spec.l09DrawBudget, spec.DrawTransversalsOf. No condition beyond those stated. -/
namespace Go.Proofs.Ytcnjlkabdfcjdaa
open Go.RowKit

theorem litB5 (w : World) (t : TypeId) (a b c d f : Int) (ha : I64 a) (hb : I64 b) (hc : I64 c) (hd : I64 d) (hf : I64 f) : RI (w.alloc (.cells #[.int .i64 a, .int .i64 b, .int .i64 c, .int .i64 d, .int .i64 f] t)) (some ⟨w.heap.size, 0, none⟩) 5 [a, b, c, d, f] :=
  RS.lit (E := EInt) (Value.int .i64) w t [a, b, c, d, f] fun x hx => ⟨rfl, by simp at hx; rcases hx with rfl | rfl | rfl | rfl | rfl <;> assumption⟩
/-- a drawn budget -/
def RetDB9 (w : World) (g p : Nat) (e : Ending) (w' : World) : Prop := ∃ (b : Int) (q : Nat), e = .returned (.int .i64 b) ∧ I64 b ∧ SrW w w' g q ∧ q ≤ p + 6
set_option maxRecDepth 100000 in
set_option maxHeartbeats 800000 in
theorem l09DrawBudget_any (g p : Nat) (w : World) (hs : Src w g p) (hp : p ≤ 562949953421312) :
    Calls Try.prog 34 #[.pointer (some ⟨g, 0, none⟩)] w (RetDB9 w g p) := by
  have S := SrW.start hs
  clear hs
  go_enter Try.func34, Try.ntmps34
  go_wp2_with fail
  refine (pick_any g p 8 _ S.src (by omega) (by omega) (by omega)).mono ?_
  rintro e w1 ⟨x, q1, rfl, x0, x1, hq1, hs1, hg1⟩
  have S := S.next hs1 hg1
  clear hs1 hg1
  by_cases e0 : x = 0
  · have t0 : (x == 0) = true := by simp [e0]
    clear e0
    have L := litB5 w1 2 0 1 (-1) 20000 20001 ⟨by omega, by omega⟩ ⟨by omega, by omega⟩ ⟨by omega, by omega⟩ ⟨by omega, by omega⟩ ⟨by omega, by omega⟩
    have hgs := S.src.lt
    have S := S.step (below_alloc w1 (.cells #[.int .i64 0, .int .i64 1, .int .i64 (-1), .int .i64 20000, .int .i64 20001] 2))
    have ham := among_any g q1 _ 5 5 _ _ S.src (by omega) L (fun a ha => by cases ha; show w1.heap.size ≠ g; omega) (by omega) (by omega)
    clear L
    go_wp2_with fail
    refine ham.mono ?_
    rintro e w2 ⟨y, q2, rfl, hy, hq2, hs2, hg2⟩
    have S := S.next hs2 hg2
    have hN : I64 y := by unfold I64; simp at hy; omega
    clear hy ham hs2 hg2
    go_wp2
    go_ret
    exact ⟨y, q2, rfl, hN, S, by omega⟩
  have t0 : (x == 0) = false := by simp [e0]
  by_cases e1 : x = 1
  · have t1 : (x == 1) = true := by simp [e1]
    clear e0 e1
    go_wp2_with fail
    refine (pick_any g q1 30 _ S.src (by omega) (by omega) (by omega)).mono ?_
    rintro e w2 ⟨y, q2, rfl, y0, y1, hq2, hs2, hg2⟩
    have S := S.next hs2 hg2
    clear hs2 hg2
    go_wp2
    go_ret
    exact ⟨_, q2, rfl, ⟨by omega, by omega⟩, S, by omega⟩
  have t1 : (x == 1) = false := by simp [e1]
  clear e0 e1
  go_wp2_with fail
  refine (pick_any g q1 1000 _ S.src (by omega) (by omega) (by omega)).mono ?_
  rintro e w2 ⟨y, q2, rfl, y0, y1, hq2, hs2, hg2⟩
  have S := S.next hs2 hg2
  clear hs2 hg2
  go_wp2
  go_ret
  exact ⟨_, q2, rfl, ⟨by omega, by omega⟩, S, by omega⟩
/-- drawn rows, a limit, a budget -/
def RetDT (w : World) (e : Ending) (w' : World) : Prop := ∃ A n c zss lim b, e = .returned (.tuple #[.slice A n c, .int .i64 lim, .int .i64 b]) ∧ RR w' A n zss ∧ n ≤ 10 ∧ (∀ z ∈ zss, z.length ≤ 10) ∧ I64 lim ∧ I64 b ∧ Below w.heap.size w w'
set_option maxRecDepth 100000 in
set_option maxHeartbeats 2000000 in
theorem drawTransversals_any (A : Option Addr) (n c : Nat) (bs : List Int) (w : World) (ha : RS EByte w A n bs) (hn : n ≤ 9223372036854775807) :
    Calls Try.prog 8 #[.slice A n c] w (RetDT w) := by
  go_enter Try.func8, Try.ntmps8
  go_wp2_with fail
  refine (l00From_any A n c bs w ha hn).mono ?_
  rintro e w1 ⟨rfl, hs, hb⟩
  have S := SrW.start hs
  have hgw : ∀ b, some w.heap.size = some b → w.heap.size ≤ b := fun b hb => by injection hb with hb; omega
  have hsz := hb.size
  generalize hG : w.heap.size = g at *
  clear ha hs
  go_wp2_with fail
  refine (l06Draw_any g 0 w1 S.src (by omega)).mono ?_
  rintro e w2 ⟨X, m, d, zss, q, rfl, ho, hm, hrl, S2, hq⟩
  have S := S.then_ S2
  have hgs := S2.src.lt
  have L := RS.lit (E := EInt) (Value.int .i64) w2 2 [1, 2, 5, 100, 0, 101, 3, 10] (fun x hx => ⟨rfl, by simp at hx; unfold I64; omega⟩)
  have hba := below_alloc w2 (.cells #[.int .i64 1, .int .i64 2, .int .i64 5, .int .i64 100, .int .i64 0, .int .i64 101, .int .i64 3, .int .i64 10] 2)
  have S3 := S.step hba
  have ho := ho.below hba
  have ham := among_any g q _ 8 8 [1, 2, 5, 100, 0, 101, 3, 10] _ S3.src (by omega) L (fun a ha => by cases ha; show w2.heap.size ≠ g; omega) (by omega) (by omega)
  clear L S S2 hba
  go_wp2_with fail
  refine ham.mono ?_
  rintro e w3 ⟨lim, q3, rfl, hl, hq3, hs3, hg3⟩
  have S := S3.next hs3 hg3
  have hgl := S3.gl
  have ho := ho.keptB hg3 hgl
  have hl : I64 lim := by unfold I64; simp at hl; omega
  clear ham hs3 hg3 S3
  go_wp2_with fail
  refine (l09DrawBudget_any g q3 w3 S.src (by omega)).mono ?_
  rintro e w4 ⟨b, q4, rfl, hb4, S4, hq4⟩
  have ho := ho.keptB S4.grown hgl
  have S := S.then_ S4
  clear S4
  go_wp2
  go_ret3
  exact ⟨X, m, d, zss, lim, b, rfl, ho.reads, hm, hrl, hl, hb4, by rw [hG]; exact hb.grown S.grown hsz hgw⟩
end Go.Proofs.Ytcnjlkabdfcjdaa
