/- Squares: whether rows are one, the program's side. No condition beyond those stated. -/
import Derived.Test.YtcnjlkabdfcjdaaZAF
import Derived.Test.YtcnjlkabdfcjdaaZAX
import Derived.Deep.RegionHeld3
import Derived.Test.YtcnjlkabdfcjdaaZAU
set_option linter.unusedVariables false
set_option linter.unusedSimpArgs false
namespace Go.Proofs.Ytcnjlkabdfcjdaa
open Go.RowKit

set_option maxHeartbeats 1000000 in
theorem validPermutation_any (A : Option Addr) (n c : Nat) (p : List Int) (w : World) (ha : RI w A n p) (hn : n ≤ 1099511627776) :
    Calls Try.prog 50 #[.slice A n c] w (RetB w (tB (PermOk p))) := by
  have hla := Lib.hid ha.len
  go_enter Try.func50, Try.ntmps50
  go_wp2_with fail
  refine (clone_any A n c p _ ha hn).mono ?_
  rintro e w1 ⟨A2, n2, c2, rfl, ho, hb⟩
  obtain rfl : n2 = n := by rw [← ho.len, hla.out]
  go_wp2_with fail
  refine (sort_any w.heap.size _ A2 n2 c2 p _ ho (by omega)).mono ?_
  rintro e w2 ⟨rfl, ho2, hg2⟩
  have hb2 := below_own hb hg2 hb.size (fun b hb => (ho.os.lt hb).1)
  clear ho hb hg2
  have hrd := ho2.reads
  have hsl := Lib.hid (srt_len p)
  clear ho2
  go_wp2
  go_loop [12] (fun i => ∃ k : Nat, k ≤ n2 ∧ i = .int .i64 k ∧ ∀ j : Nat, j < k → nth (srt p) j = (j : Int)) (fun i => n2 - (intOf i).toNat)
  case atStart => exact ⟨0, Nat.zero_le _, rfl, fun _ h => absurd h (by omega)⟩
  case round =>
    obtain ⟨k, hk, rfl, hto⟩ := hrel
    by_cases hlt : k < n2
    · obtain ⟨a, rfl, hca, hia⟩ := hrd.get hlt
      by_cases he : nth (srt p) k = (k : Int)
      · have he' : (nth (srt p) k != (k : Int)) = false := by simp [he]
        have H := Lib.hid (show ∀ j : Nat, j < k + 1 → nth (srt p) j = (j : Int) from fun j hj => by
          rcases Nat.lt_succ_iff_lt_or_eq.1 hj with h' | h'
          · exact hto j h'
          · rw [h']; exact he)
        clear hto he
        go_wp2
        go_round
        case rel => exact ⟨k + 1, by omega, by go_num, H.out⟩
        case measure => simp [intOf]; omega
      · have he' : (nth (srt p) k != (k : Int)) = true := by simp [he]
        have H := Lib.hid (show tB (PermOk p) = false from tB_no fun hh => he ((perm_iff p).1 hh.2 k (by rw [hla.out]; exact hlt)))
        clear hto he
        go_wp2
        go_ret
        exact ⟨by rw [H.out]; rfl, hb2⟩
    · have hperm := Lib.hid ((perm_iff p).2 (show inOrder p from fun j hj => hto j (by rw [hla.out] at hj; omega)))
      clear hto
      by_cases h32 : n2 ≤ 32
      · have H := Lib.hid (show tB (PermOk p) = true from tB_yes ⟨by rw [hla.out]; exact h32, hperm.out⟩)
        go_wp2
        go_ret
        exact ⟨by rw [H.out]; exact ret_bool (by simp; omega), hb2⟩
      · have H := Lib.hid (show tB (PermOk p) = false from tB_no fun hh => h32 (by have := hh.1; rw [hla.out] at this; exact this))
        go_wp2
        go_ret
        exact ⟨by rw [H.out]; exact ret_bool (by simp; omega), hb2⟩
noncomputable def noPerm (d : Int) (z : List Int) : Bool := !tB ((z.length : Int) = d ∧ PermOk z)
def allPerm (d : Int) (zs : List (List Int)) : Prop := ∀ i, i < zs.length → ((row zs i).length : Int) = d ∧ PermOk (row zs i)
theorem noPerm_any (zs : List (List Int)) (d : Int) : (!zs.any (noPerm d)) = tB (allPerm d zs) := by
  cases h : zs.any (noPerm d) with
  | true =>
    obtain ⟨x, hx, hb⟩ := List.any_eq_true.1 h
    obtain ⟨k, hk, rfl⟩ := List.mem_iff_getElem.1 hx
    rw [tB_no (p := allPerm d zs) fun hh => ?_]
    · rfl
    · have := hh k hk
      rw [row_get hk] at this
      simp [noPerm, tB_yes this] at hb
  | false =>
    rw [tB_yes (p := allPerm d zs) fun i hi => ?_]
    · rfl
    · rw [List.any_eq_false] at h
      have := h zs[i] (List.getElem_mem hi)
      rw [row_get hi]
      exact tB_true.1 (by simpa [noPerm] using this)
theorem keep1 {W w' : World} {p : Addr} {u : Value} (hb : Below W.heap.size W w') (h1 : W.cell? p = some u) : Below W.heap.size W w' ∧ w'.cell? p = some u := ⟨hb, below_cell hb h1⟩
set_option maxHeartbeats 1000000 in
theorem arePermutations1_any (A : Option Addr) (n c : Nat) (z : List Int) (d : Int) (p : Addr) (w : World) (hp : w.cell? p = some (.int .i64 d)) (ha : RI w A n z) (hn : n ≤ 1099511627776) :
    Calls Try.prog 83 #[.slice A n c, .pointer (some p)] w (RetB w (noPerm d z)) := by
  have hla := Lib.hid ha.len
  by_cases h1 : (n : Int) = d
  · have h1' : ((n : Int) != d) = false := by simp [h1]
    have H := Lib.hid (show (!tB (PermOk z)) = noPerm d z by
      unfold noPerm
      congr 1
      exact tB_congr ⟨fun h => ⟨by rw [hla.out]; exact h1, h⟩, fun h => h.2⟩)
    clear h1
    go_enter Try.func83, Try.ntmps83
    go_wp2
    go_region_held3 (fun w' => Below w.heap.size w w' ∧ w'.cell? p = some (.int .i64 d))
      (first | exact keep1 (below_drewn _ 1) hp | exact keep1 (below_then (And.left (by assumption)) (by assumption)) hp)
      (first
        | (go_at_call 78; (with_reducible refine (sizeI_any A n c _ ?_).mono ?_); (omega); rintro e w2 ⟨rfl, rfl⟩)
        | (go_at_call 50; (with_reducible refine (validPermutation_any A n c z _ ?_ ?_).mono ?_); (exact ha.keep (And.left (by assumption))); (exact hn); rintro e w3 ⟨rfl, hb3⟩))
    have hw : Below w.heap.size w w3 := And.left (by assumption)
    go_wp2
    go_ret
    exact ⟨by rw [← H.out]; rfl, hw⟩
  · have h1' : ((n : Int) != d) = true := by simp [h1]
    have H := Lib.hid (show noPerm d z = true by
      unfold noPerm
      rw [tB_no fun h => h1 (by have := h.1; rw [hla.out] at this; exact this)]
      rfl)
    have hcall : ∀ q, Calls Try.prog 78 #[.slice A n c] (w.drewN q) (Quiet (w.drewN q) (.int .i64 n)) := fun q => (sizeI_any A n c _ (by omega)).mono fun _ _ h => Quiet.of_same h
    clear h1
    go_enter Try.func83, Try.ntmps83
    go_wp2
    go_quiet ((go_at_call 78; exact Quiet.call (hcall _)))
    go_wp2
    go_ret
    exact ⟨by rw [H.out]; rfl, below_drewn _ _⟩
set_option maxHeartbeats 400000 in
theorem arePermutations_any (d : Int) (A : Option Addr) (n c : Nat) (zs : List (List Int)) (w : World) (ha : RR w A n zs) (hn : n ≤ 1099511627776) (hr : cells zs ≤ 1099511627776) :
    Calls Try.prog 49 #[.int .i64 d, .slice A n c] w (RetB w (tB (allPerm d zs))) := by
  have eg : ∀ (args : Array Value) (w : World), (callFunc 83 args).run Try.prog w = .ok (.enter 83 args) w := fun _ _ => by kernel_rfl
  have hb1 := below_alloc w (.cells #[.int .i64 d] 2)
  have hcell : (w.alloc (.cells #[.int .i64 d] 2)).cell? ⟨w.heap.size, 0, none⟩ = some (.int .i64 d) := (Blk.new w 2 #[.int .i64 d]).cell 0
  have H := Lib.hid (noPerm_any zs d)
  have hask : AskRb 83 #[.pointer (some ⟨w.heap.size, 0, none⟩)] (noPerm d) (w.alloc (.cells #[.int .i64 d] 2)) 1099511627776 := fun A' n' c' z W hW hz h2 h3 h4 =>
    arePermutations1_any A' n' c' z d _ W (below_cell hW hcell) hz h4
  go_enter Try.func49, Try.ntmps49
  go_wp2_with (go_at_call 82; refine (containsFuncRb _ _ eg (noPerm d) A n c zs _ 1099511627776 (ha.keep hb1) (by omega) (rows_small ha hr) hask).mono ?_; rintro e w2 ⟨rfl, hb2⟩)
  go_ret
  exact ⟨by rw [← H.out]; rfl, below_then hb1 hb2⟩
set_option maxRecDepth 100000 in
set_option maxHeartbeats 2000000 in
theorem validSquare_any (A : Option Addr) (n c : Nat) (a : List (List Int)) (w : World) (ha : RR w A n a) (hn : n ≤ 1099511627776) (hr : cells a ≤ 1099511627776) :
    Calls Try.prog 18 #[.slice A n c] w (RetB w (tB (Square a))) := by
  have hla := Lib.hid ha.len
  have HS := Lib.hid (square_iff a)
  cases h0 : inB (n : Int) 1 10 with
  | false =>
    have H := Lib.hid (show tB (Square a) = false from tB_no fun hh => by
      have h1 := hh.1; have h2 := hh.2.1
      rw [hla.out] at h1 h2
      rw [inB_mk ⟨by omega, by omega⟩] at h0
      cases h0)
    go_enter Try.func18, Try.ntmps18
    go_wp2_with (first | (go_at_call 48; refine (sizeR_any _ _ _ _ (by omega)).mono ?_; rintro e w' ⟨rfl, rfl⟩) | (go_at_call 36; refine (within_any _ _ _ _).mono ?_; rintro e w' ⟨rfl, rfl⟩; rw [h0]))
    go_ret
    exact ⟨by rw [H.out]; rfl, Below.refl _ _⟩
  | true =>
    obtain ⟨i1, i2⟩ := inB_true h0
    have n1 : 1 ≤ n := by omega
    have n2 : n ≤ 10 := by omega
    clear i1 i2
    have hcall := arePermutations_any (n : Int) A n c a w ha hn hr
    cases h1 : tB (allPerm (n : Int) a) with
    | false =>
      have H := Lib.hid (show tB (Square a) = false from tB_no fun hh => by
        rw [tB_yes (p := allPerm (n : Int) a) fun i hi => ?_] at h1
        · cases h1
        · have := (HS.out.1 hh).2.1 i hi
          exact ⟨by rw [this.1, hla.out], by rw [this.1, hla.out]; omega, this.2⟩)
      rw [h1] at hcall
      clear h1
      go_enter Try.func18, Try.ntmps18
      go_wp2_with (first | (go_at_call 48; refine (sizeR_any _ _ _ _ (by omega)).mono ?_; rintro e w' ⟨rfl, rfl⟩) | (go_at_call 36; refine (within_any _ _ _ _).mono ?_; rintro e w' ⟨rfl, rfl⟩; rw [h0]) | (go_at_call 49; refine hcall.mono ?_; rintro e w1 ⟨rfl, hb1⟩))
      go_ret
      exact ⟨by rw [H.out]; rfl, hb1⟩
    | true =>
      have HT := Lib.hid (show sqRows a n from fun i hi => by
        have := tB_true.1 h1 i (by rw [hla.out]; exact hi)
        exact ⟨by rw [hla.out]; omega, this.2.2⟩)
      rw [h1] at hcall
      clear h1
      go_enter Try.func18, Try.ntmps18
      go_wp2_with (first | (go_at_call 48; refine (sizeR_any _ _ _ _ (by omega)).mono ?_; rintro e w' ⟨rfl, rfl⟩) | (go_at_call 36; refine (within_any _ _ _ _).mono ?_; rintro e w' ⟨rfl, rfl⟩; rw [h0]) | (go_at_call 49; refine hcall.mono ?_; rintro e w1 ⟨rfl, hb1⟩))
      go_loopw [20] (fun i wr => ∃ y : Nat, i = .int .i64 y ∧ y ≤ n ∧ sqCols a y ∧ Below w.heap.size w wr) (fun i _ => n - (intOf i).toNat)
      case atStart => exact ⟨0, rfl, Nat.zero_le _, fun _ h => absurd h (by omega), hb1⟩
      case round =>
        clear hb1 hcall
        obtain ⟨y, rfl, hy, hco, hb⟩ := hrel
        by_cases hlt' : y < n
        · obtain ⟨ws, rfl⟩ : ∃ ws : World, ws = wr := ⟨_, rfl⟩
          go_wp2
          go_loopw [5, 25] (fun v i wr => ∃ (x : Nat) (A' : Option Addr) (c' : Nat), i = .int .i64 x ∧ x ≤ n ∧ v = .slice A' x c' ∧ OI wr w.heap.size 2 A' x c' (colTo a y x) ∧ Below w.heap.size w wr) (fun _ i _ => n - (intOf i).toNat)
          case atStart => exact ⟨0, _, _, rfl, Nat.zero_le _, rfl, OI.nil_ _ _ _, hb⟩
          case round =>
            clear hb
            obtain ⟨x, A', c', rfl, hx, rfl, ho, hb⟩ := hrel
            by_cases hx' : x < n
            · obtain ⟨ad, A1, m1, c1, rfl, hca, hn1, hc1, ha1⟩ := (ha.keep hb).get hx'
              obtain rfl : m1 = n := by rw [← ha1.len, (HT.out x hx').1, hla.out]
              obtain ⟨bd, rfl, hcb, hib⟩ := ha1.get hlt'
              have hst := Lib.hid (colTo_step (a := a) (y := y) (x := x) (by rw [hla.out]; exact hx'))
              go_wp2_with (at_builtin; refine wpList_app1 _ rfl _ _ 30 rfl 2 (.int .i64 0) 8 Try.underlying30 int_info rfl (by omega) w.heap.size A' x c' (ints (colTo a y x)) rfl ho.os (.int .i64 (nth (row a x) y)) rfl rfl (by omega) hb.size ?_; intro A3 c3 w3 ho3 hg3 hn3)
              have hb3 := below_own hb hg3 hb.size (fun b hb => (ho.os.lt hb).1)
              have hi3 := OI.snoc ho3 ho.all (z := nth (row a x) y) hib
              rw [← hst.out] at hi3
              clear ho ho3 hg3 hn3 hca hcb
              go_wp2
              go_roundw
              case rel => exact ⟨x + 1, A3, c3, by go_num, by omega, rfl, hi3, hb3⟩
              case measure => simp [intOf]; omega
            · obtain rfl : x = n := by omega
              have hcl := Lib.hid (show colTo a y x = a.map fun r => nth r y by rw [← hla.out, colTo_all])
              have hlen := Lib.hid (show (colTo a y x).length = x from colTo_len (by rw [hla.out]; exact Nat.le_refl _))
              have hcall := validPermutation_any A' x c' (colTo a y x) _ ho.reads (by omega)
              cases h3 : tB (PermOk (colTo a y x)) with
              | true =>
                have H := Lib.hid (sqCols_step hco (by rw [← hcl.out]; exact (tB_true.1 h3).2))
                rw [h3] at hcall
                clear hco h3
                go_wp2_with (go_at_call 50; refine hcall.mono ?_; rintro e w1 ⟨rfl, hb1⟩)
                go_roundw
                case rel => exact ⟨y + 1, by go_num, by omega, H.out, hb.trans (hb1.mono hb.size)⟩
                case measure => simp [intOf]; omega
              | false =>
                have H := Lib.hid (show tB (Square a) = false from tB_no fun hh => by
                  have := (HS.out.1 hh).2.2 y (by rw [hla.out]; exact hlt')
                  rw [← hcl.out] at this
                  rw [tB_yes ⟨by rw [hlen.out]; omega, this⟩] at h3
                  cases h3)
                rw [h3] at hcall
                clear hco h3
                go_wp2_with (go_at_call 50; refine hcall.mono ?_; rintro e w1 ⟨rfl, hb1⟩)
                go_ret
                exact ⟨by rw [H.out]; rfl, hb.trans (hb1.mono hb.size)⟩
        · have H := Lib.hid (show tB (Square a) = true from tB_yes (HS.out.2 ⟨⟨by rw [hla.out]; exact n1, by rw [hla.out]; exact n2⟩, by rw [hla.out]; exact HT.out, by rw [hla.out]; rwa [show y = n by omega] at hco⟩))
          clear hco
          go_wp2
          go_ret
          exact ⟨by rw [H.out]; rfl, hb⟩
end Go.Proofs.Ytcnjlkabdfcjdaa
/- Transversals, the program's TransversalsOf. No condition beyond those stated. -/
namespace Go.Proofs.Ytcnjlkabdfcjdaa
open Go.RowKit

/-- what TransversalsOf answers: its code -/
noncomputable def trK (a : List (List Int)) (lim b : Int) : Int := if tB (Square a) then (if inB b 1 20000 then (if inB lim 1 100 then (if (trR a lim.toNat b.toNat).spent then 5 else 0) else 2) else 2) else 1
/-- and its list -/
noncomputable def trF (a : List (List Int)) (lim b : Int) : List (List Int) := if trK a lim b = 0 then (trR a lim.toNat b.toNat).found else []
def RetTr (w : World) (a : List (List Int)) (lim b : Int) (e : Ending) (w' : World) : Prop :=
  Below w.heap.size w w' ∧ ∃ FA fn fk vs, e = .returned (.tuple #[.slice FA fn fk, .int .i64 (trK a lim b)]) ∧ ORv w' w.heap.size 30 2 FA fn fk vs (trF a lim b)
theorem ORv.nil_ (w : World) (B : Nat) : ORv w B 30 2 none 0 0 [] [] := ⟨OS.nil_ _ _ _ _, rfl, fun j u z h => by simp at h, fun i j u x _ h => by simp at h, by decide⟩
theorem ORv.more {w : World} {B B' : Nat} {A : Option Addr} {n c : Nat} {vs : List Sl} {zss : List (List Int)} (h : ORv w B 30 2 A n c vs zss) (hB : B' ≤ B) : ORv w B' 30 2 A n c vs zss :=
  ⟨h.os.more hB, h.len, fun j v z hv hz => (h.rows j v z hv hz).more hB, h.sep, h.ne⟩
theorem RetTr.no {w w' : World} {a : List (List Int)} {lim b c : Int} (hb : Below w.heap.size w w') (hk : trK a lim b = c) (hc : c ≠ 0) : RetTr w a lim b (.returned (.tuple #[.slice none 0 0, .int .i64 c])) w' :=
  ⟨hb, none, 0, 0, [], by rw [hk], by rw [trF, hk, if_neg hc]; exact ORv.nil_ _ _⟩
theorem searchT_any (w0 : World) (M n : Nat) (SA : Option Addr) (sc : Nat) (a : List (List Int)) (lim : Nat) (hq : Square a) (hn : n ≤ 10) (hlim : lim ≤ 100) : ∀ k, SubT w0 M n SA sc a lim k
  | 0 => fun w' s' cols' C' FA' hl hsp hfl hsl hS => by
    rw [trS]
    exact searchT_leaf w0 w' M n SA sc a lim s' cols' C' FA' hS (by omega) hn (by omega)
  | k + 1 => fun w' s' cols' C' FA' hl hsp hfl hsl hS => searchT_step w0 w' M n SA sc a lim k s' cols' C' FA' hq hl hlim hsp hfl hsl hS (searchT_any w0 M n SA sc a lim hq hn hlim k)
theorem bool_infoT : (Try.prog.info? 4).map (fun i => (i.zero, i.size, i.bytes)) = some (some (.bool false), 1, 1) := by kernel_rfl
set_option maxRecDepth 100000 in
set_option maxHeartbeats 4000000 in
theorem transversalsOf_any (A : Option Addr) (n c : Nat) (a : List (List Int)) (lim b : Int) (w : World) (ha : RR w A n a) (hn : n ≤ 1099511627776) (hr : cells a ≤ 1099511627776) :
    Calls Try.prog 9 #[.slice A n c, .int .i64 lim, .int .i64 b] w (RetTr w a lim b) := by
  have hval := validSquare_any A n c a w ha hn hr
  cases hc : tB (Square a) with
  | false =>
    rw [hc] at hval
    have HK := Lib.hid (show trK a lim b = 1 by rw [trK, hc]; rfl)
    go_enter Try.func9, Try.ntmps9
    go_wp2_with (go_at_call 18; refine hval.mono ?_; rintro e w2 ⟨rfl, hb2⟩)
    go_ret2
    exact RetTr.no hb2 HK.out (by decide)
  | true =>
    rw [hc] at hval
    have hq := tB_true.1 hc
    cases hi : inB b 1 20000 with
    | false =>
      have HK := Lib.hid (show trK a lim b = 2 by rw [trK, hc, hi]; rfl)
      go_enter Try.func9, Try.ntmps9
      go_wp2_with (first | (go_at_call 18; refine hval.mono ?_; rintro e w2 ⟨rfl, hb2⟩) | (go_at_call 35; refine (isBudget_any _ _).mono ?_; rintro e w3 ⟨rfl, rfl⟩; rw [hi]))
      go_ret2
      exact RetTr.no hb2 HK.out (by decide)
    | true =>
      cases hj : inB lim 1 100 with
      | false =>
        have HK := Lib.hid (show trK a lim b = 2 by rw [trK, hc, hi, hj]; rfl)
        go_enter Try.func9, Try.ntmps9
        go_wp2_with (first | (go_at_call 18; refine hval.mono ?_; rintro e w2 ⟨rfl, hb2⟩) | (go_at_call 35; refine (isBudget_any _ _).mono ?_; rintro e w3 ⟨rfl, rfl⟩; rw [hi]) | (go_at_call 36; refine (within_any _ _ _ _).mono ?_; rintro e w3 ⟨rfl, rfl⟩; rw [hj]))
        go_ret2
        exact RetTr.no hb2 HK.out (by decide)
      | true =>
        have hbb := inB_true hi
        have hll := inB_true hj
        obtain ⟨lim', rfl⟩ : ∃ l' : Nat, lim = (l' : Int) := ⟨lim.toNat, by omega⟩
        obtain ⟨b', rfl⟩ : ∃ l' : Nat, b = (l' : Int) := ⟨b.toNat, by omega⟩
        have hal := ha.len
        have hn10 : n ≤ 10 := by have := hq.2.1; omega
        have hmk1 := run_make_row' (P := Try.prog) 57 4 (.bool false) 1 Try.underlying57 bool_infoT rfl .i64 .i64 n (by omega) (by omega)
        have HK := Lib.hid (show trK a (lim' : Int) (b' : Int) = if (trR a lim' b').spent then 5 else 0 by rw [trK, hc, hi, hj]; rfl)
        go_enter Try.func9, Try.ntmps9
        go_wp2_with (first | (go_at_call 18; refine hval.mono ?_; rintro e w2 ⟨rfl, hb2⟩) | (go_at_call 35; refine (isBudget_any _ _).mono ?_; rintro e w3 ⟨rfl, rfl⟩; rw [hi]) | (go_at_call 36; refine (within_any _ _ _ _).mono ?_; rintro e w3 ⟨rfl, rfl⟩; rw [hj]))
        have hsz := hb2.size
        obtain ⟨WA, hWA⟩ : ∃ WA, w2.alloc (.cells (madeCells #[.bool false] n) 4) = WA := ⟨_, rfl⟩
        have hbA : Below w2.heap.size w2 WA := hWA ▸ below_alloc w2 _
        have hsA : WA.heap.size = w2.heap.size + 1 := by rw [← hWA]; simp
        have hdA := OS.made w2 w2.heap.size 4 (.bool false) n (Nat.le_refl _) (by omega)
        rw [show List.replicate n (Value.bool false) = flags n (fun z => memB (symT a []) (z : Nat)) by
          refine (List.eq_replicate_iff.2 ⟨flags_len _ _, fun u hu => ?_⟩).symm
          obtain ⟨j, -, rfl⟩ := List.mem_map.1 hu
          rfl, hWA] at hdA
        rw [hWA]
        obtain ⟨WB, hWB⟩ : ∃ WB, WA.alloc (.cells #[.int .i64 b', .bool false, .slice A n c, .int .i64 lim', .slice none 0 0, .slice (some ⟨w2.heap.size, 0, none⟩) n n, .slice none 0 0] 59) = WB := ⟨_, rfl⟩
        have hbB : Below WA.heap.size WA WB := hWB ▸ below_alloc WA _
        have hbAB := below_then hbA hbB
        have hXB : Blk WB (w2.heap.size + 1) 59 #[.int .i64 b', .bool false, .slice A n c, .int .i64 lim', .slice none 0 0, .slice (some ⟨w2.heap.size, 0, none⟩) n n, .slice none 0 0] := by
          rw [← hWB, ← hsA]; exact Blk.new WA _ _
        have hsB : WB.heap.size = w2.heap.size + 2 := by rw [← hWB]; simp [hsA]
        have hit : ITr w2 WB (w2.heap.size + 2) n A c a lim' none 0 0 none 0 0 ((b' : Nat) : Int) false (fun z => memB (symT a []) (z : Nat)) [] [] [] :=
          ⟨hXB, hbAB, ha.keep hb2, Nat.le_refl _, by omega, hdA.below hbB, OI.nil_ _ _ _, ORv.nil_ _ _, fun j u h => by simp at h⟩
        have hse := searchT_any w2 (w2.heap.size + 2) n A c a lim' hq hn10 (by omega) n WB ⟨b', false, []⟩ [] none none (by simp) rfl (by simp only [List.length_nil]; omega) (by dsimp only; omega) ⟨0, 0, 0, 0, [], hit⟩
        rw [show trS a lim' n [] ⟨b', false, []⟩ = trR a lim' b' by rw [trR, hal]] at hse
        have hbw := hb2.trans (hbAB.mono hsz)
        rw [hWB]
        clear hval hmk1 hWA hbA hsA hdA hWB hbB hbAB hXB hsB hit hbb hll
        refine hse.mono ?_
        rintro e w3 ⟨rfl, C3, F3, ⟨m3, mc3, fn3, fk3, vs3, h3⟩, k3⟩
        obtain ⟨⟨-, x1, -, -⟩, -, -, x6⟩ := h3.cells
        have hB3 : Below w.heap.size w w3 := hb2.trans (h3.b.mono hsz)
        have HR3 := Lib.hid (h3.r.more (show w.heap.size ≤ w2.heap.size + 2 by omega))
        clear h3 k3 hse
        cases hsp : (trR a lim' b').spent with
        | true =>
          rw [hsp] at x1
          have HK2 := Lib.hid (show trK a (lim' : Int) (b' : Int) = 5 by rw [HK.out, if_pos hsp])
          go_wp2
          go_ret2
          exact RetTr.no hB3 HK2.out (by decide)
        | false =>
          rw [hsp] at x1
          have HK2 := Lib.hid (show trK a (lim' : Int) (b' : Int) = 0 by rw [HK.out, if_neg (by rw [hsp]; decide)])
          go_wp2
          go_ret2
          refine ⟨hB3, F3, fn3, fk3, vs3, by rw [HK2.out]; rfl, ?_⟩
          rw [trF, if_pos HK2.out]
          exact HR3.out
end Go.Proofs.Ytcnjlkabdfcjdaa
