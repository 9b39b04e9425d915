/- Partial squares: a symbol in a column, the candidates of a cell, the empty cells. No condition beyond those stated. -/
import Derived.Test.YtcnjlkabdfcjdaaZAD
import Derived.Test.YtcnjlkabdfcjdaaZAV
import Derived.Test.YtcnjlkabdfcjdaaZAP
import Derived.Test.YtcnjlkabdfcjdaaZAE
import Derived.Test.YtcnjlkabdfcjdaaZAI
import Derived.Test.YtcnjlkabdfcjdaaZAO
set_option linter.unusedVariables false
set_option linter.unusedSimpArgs false
namespace Go.Proofs.Ytcnjlkabdfcjdaa
open Go.RowKit

/-- a function value that tells of each of some lists whether p holds -/
def AskRm (g : Nat) (lb : Array Value) (p : List Int → Bool) (zs : List (List Int)) (w : World) : Prop :=
  ∀ (A : Option Addr) (n c : Nat) (z : List Int) (W : World), Below w.heap.size w W → z ∈ zs → RI W A n z → n ≤ c → c ≤ 9223372036854775807 → Calls Try.prog g (#[.slice A n c] ++ lb) W (RetB W (p z))
set_option maxHeartbeats 1000000 in
theorem indexFuncRm (g : Nat) (lb : Array Value) (eg : ∀ args w, (callFunc g args).run Try.prog w = .ok (.enter g args) w) (p : List Int → Bool) (A : Option Addr) (n c : Nat) (zs : List (List Int)) (w : World) (ha : RR w A n zs) (hn : n ≤ 9223372036854775807) (hp : AskRm g lb p zs w) :
    Calls Try.prog 100 #[.slice A n c, .func (.func g) #[] lb] w (SomeIdx w (zs.any p)) := by
  have hla := Lib.hid ha.len
  go_enter Try.func100, Try.ntmps100
  go_wp2
  go_loopw [5, 8] (fun _ i wr => ∃ k : Nat, k ≤ n ∧ i = .int .i64 k ∧ Below w.heap.size w wr ∧ noneTo p zs k) (fun _ i _ => n - (intOf i).toNat)
  case atStart => exact ⟨0, Nat.zero_le _, rfl, Below.refl _ _, fun j _ h => absurd h (by omega)⟩
  case round =>
    obtain ⟨k, hk, rfl, hb, hnone⟩ := hrel
    by_cases hlt : k < n
    · obtain ⟨a, A1, n1, c1, rfl, hca, hn1, hc1, ha1⟩ := (ha.keep hb).get hlt
      have hz : zs[k]? = some (row zs k) := by
        have h : k < zs.length := by rw [hla.out]; exact hlt
        rw [row_get h]; exact List.getElem?_eq_getElem h
      have hcall := fun W h1 => hp A1 n1 c1 (row zs k) W h1 (List.mem_of_getElem? hz)
      cases hq : p (row zs k) with
      | true =>
        rw [hq] at hcall
        have H := Lib.hid (any_hit hz hq)
        clear hnone hz hq
        go_wp2_with (go_at_fn g; refine (hcall _ hb ha1 hn1 hc1).mono ?_; rintro e w1 ⟨rfl, hb1⟩)
        go_ret
        exact ⟨k, rfl, by omega, by omega, by rw [H.out]; simp, hb.trans (hb1.mono hb.size)⟩
      | false =>
        rw [hq] at hcall
        have H := Lib.hid (noneTo_step hnone hz hq)
        clear hnone hz hq
        go_wp2_with (go_at_fn g; refine (hcall _ hb ha1 hn1 hc1).mono ?_; rintro e w1 ⟨rfl, hb1⟩)
        go_roundw
        case rel => exact ⟨k + 1, by omega, by go_num, hb.trans (hb1.mono hb.size), H.out⟩
        case measure => simp [intOf]; omega
    · have H := Lib.hid (show zs.any p = false from noneTo_all (by rw [hla.out]; rwa [show k = n by omega] at hnone))
      clear hnone
      go_wp2
      go_ret
      exact ⟨-1, rfl, by omega, by omega, by rw [H.out]; simp, hb⟩
set_option maxHeartbeats 400000 in
theorem containsFuncRm (g : Nat) (lb : Array Value) (eg : ∀ args w, (callFunc g args).run Try.prog w = .ok (.enter g args) w) (p : List Int → Bool) (A : Option Addr) (n c : Nat) (zs : List (List Int)) (w : World) (ha : RR w A n zs) (hn : n ≤ 9223372036854775807) (hp : AskRm g lb p zs w) :
    Calls Try.prog 82 #[.slice A n c, .func (.func g) #[] lb] w (RetB w (zs.any p)) := by
  go_enter Try.func82, Try.ntmps82
  go_wp2_with fail
  refine (indexFuncRm g lb eg p A n c zs _ ha hn hp).mono ?_
  rintro e w1 ⟨r, rfl, h1, h2, h3, hb⟩
  have H := Lib.hid h3
  clear h3
  go_wp2
  go_ret
  exact ⟨by rw [← H.out]; rfl, hb⟩
/-- a symbol stands in a column -/
def colB (y : Nat) (s : Int) (r : List Int) : Bool := nth r y == s
set_option maxHeartbeats 1000000 in
theorem inColumn1_any (A : Option Addr) (n c : Nat) (z : List Int) (y : Nat) (s : Int) (p q : Addr) (w : World) (hp : w.cell? p = some (.int .i64 (y : Int))) (hq : w.cell? q = some (.int .i64 s)) (ha : RI w A n z) (hy : y < n) (hn : n ≤ 9223372036854775807) :
    Calls Try.prog 99 #[.slice A n c, .pointer (some p), .pointer (some q)] w (RetB w (colB y s z)) := by
  obtain ⟨ad, rfl, hc, -⟩ := ha.get hy
  have H := Lib.hid (show (nth z y == s) = colB y s z from rfl)
  generalize nth z y = x at *
  go_enter Try.func99, Try.ntmps99
  go_wp2
  go_quiet (fail)
  go_wp2
  go_ret
  exact ⟨by rw [← H.out]; rfl, below_drewn _ _⟩
set_option maxHeartbeats 1000000 in
theorem inColumn_any (A : Option Addr) (n c : Nat) (a : List (List Int)) (y : Nat) (s : Int) (w : World) (ha : RR w A n a) (hn : n ≤ 1099511627776) (hy : ∀ r ∈ a, y < r.length) :
    Calls Try.prog 79 #[.slice A n c, .int .i64 y, .int .i64 s] w (RetB w (a.any (colB y s))) := by
  have eg : ∀ (args : Array Value) (w : World), (callFunc 99 args).run Try.prog w = .ok (.enter 99 args) w := fun _ _ => by kernel_rfl
  have hb1 := below_alloc w (.cells #[.int .i64 y] 2)
  have hc1 : (w.alloc (.cells #[.int .i64 y] 2)).cell? ⟨w.heap.size, 0, none⟩ = some (.int .i64 y) := (Blk.new w 2 #[.int .i64 y]).cell 0
  have hs1 : (w.alloc (.cells #[.int .i64 y] 2)).heap.size = w.heap.size + 1 := by simp
  have hb2 := below_alloc (w.alloc (.cells #[.int .i64 y] 2)) (.cells #[.int .i64 s] 2)
  have hc2 : ((w.alloc (.cells #[.int .i64 y] 2)).alloc (.cells #[.int .i64 s] 2)).cell? ⟨w.heap.size + 1, 0, none⟩ = some (.int .i64 s) := by
    rw [← hs1]; exact (Blk.new _ 2 #[.int .i64 s]).cell 0
  have hask : AskRm 99 #[.pointer (some ⟨w.heap.size, 0, none⟩), .pointer (some ⟨w.heap.size + 1, 0, none⟩)] (colB y s) a ((w.alloc (.cells #[.int .i64 y] 2)).alloc (.cells #[.int .i64 s] 2)) := fun A' n' c' z W hW hm hz h2 h3 =>
    inColumn1_any A' n' c' z y s _ _ W (below_cell hW (below_cell hb2 hc1)) (below_cell hW hc2) hz (by rw [← hz.len]; exact hy z hm) (by omega)
  have hb12 := below_then hb1 hb2
  have ha2 := ha.keep hb12
  clear hc1 hc2 hb1 hb2 hs1
  go_enter Try.func79, Try.ntmps79
  go_wp2_with (go_at_call 82; refine (containsFuncRm _ _ eg (colB y s) A n c a _ ha2 (by omega) hask).mono ?_; rintro e w2 ⟨rfl, hb2⟩)
  go_ret
  exact ⟨rfl, below_then hb12 hb2⟩
/-- the candidates below a number -/
def candTo (p : List (List Int)) (x y k : Nat) : List Int := ((List.range k).map fun (s : Nat) => (s : Int)).filter fun s => !(row p x).contains s && !(p.any fun r => nth r y == s)
theorem candTo_all (p : List (List Int)) (x y : Nat) : candTo p x y p.length = candP p x y := rfl
theorem memB_contains (l : List Int) (x : Int) : l.contains x = memB l x := by
  by_cases h : x ∈ l
  · rw [memB_true.2 h, List.contains_iff_mem.2 h]
  · rw [memB_false.2 h, Bool.eq_false_iff]; exact fun e => h (List.contains_iff_mem.1 e)
theorem candTo_step (p : List (List Int)) (x y k : Nat) : candTo p x y (k + 1) = if (!memB (row p x) (k : Int) && !p.any (colB y (k : Int))) = true then candTo p x y k ++ [(k : Int)] else candTo p x y k := by
  unfold candTo
  rw [List.range_succ, List.map_append, List.filter_append, List.map_singleton, List.filter_cons, List.filter_nil]
  rw [show (!(row p x).contains (k : Int) && !(p.any fun r => nth r y == (k : Int))) = (!memB (row p x) (k : Int) && !p.any (colB y (k : Int))) by rw [memB_contains]; rfl]
  split
  · rfl
  · simp
theorem candTo_le (p : List (List Int)) (x y k : Nat) : (candTo p x y k).length ≤ k := Nat.le_trans (List.length_filter_le _ _) (by simp)
set_option maxRecDepth 100000 in
set_option maxHeartbeats 2000000 in
theorem candidates_any (A : Option Addr) (n c x y : Nat) (p : List (List Int)) (w : World) (ha : RR w A n p) (hn : n ≤ 1000) (hx : x < n) (hy : ∀ r ∈ p, y < r.length) :
    Calls Try.prog 54 #[.slice A n c, .int .i64 x, .int .i64 y] w fun e w' => ∃ LA ln lc, e = .returned (.slice LA ln lc) ∧ OI w' w.heap.size 2 LA ln lc (candP p x y) ∧ Below w.heap.size w w' := by
  have hla := Lib.hid ha.len
  obtain ⟨ad, RX, rn, rc, rfl, hcx, hrn, hrc, hRX⟩ := ha.get hx
  go_enter Try.func54, Try.ntmps54
  go_wp2
  go_loopw [7, 8] (fun l i wr => ∃ (k : Nat) (LA : Option Addr) (ln lc : Nat), k ≤ n ∧ i = .int .i64 k ∧ l = .slice LA ln lc ∧ OI wr w.heap.size 2 LA ln lc (candTo p x y k) ∧ Below w.heap.size w wr) (fun _ i _ => n - (intOf i).toNat)
  case atStart => exact ⟨0, none, 0, 0, Nat.zero_le _, rfl, rfl, OI.nil_ _ _ _, Below.refl _ _⟩
  case round =>
    obtain ⟨k, LA, ln, lc, hk, rfl, rfl, ho, hb⟩ := hrel
    have hct := containsI_any RX rn rc (row p x) (k : Int) wr (hRX.keep hb) (by omega)
    have hic := inColumn_any (some ad) n c p y (k : Int) wr (ha.keep hb) (by omega) hy
    have hst := candTo_step p x y k
    have hle := candTo_le p x y k
    have hol := ho.len
    have hcx1 := below_cell hb hcx
    by_cases hlt : k < n
    · have hk64 : I64 (k : Int) := by unfold I64; omega
      cases h1 : memB (row p x) (k : Int) with
      | true =>
        rw [h1] at hct hst
        simp only [Bool.not_true, Bool.false_and, Bool.false_eq_true, if_false] at hst
        have HO := Lib.hid ho
        have HST := Lib.hid hst
        clear ho hst hic h1 hol hle
        go_wp2_with (first | (go_at_call 48; refine (sizeR_any _ _ _ _ (by omega)).mono ?_; rintro e w' ⟨rfl, rfl⟩) | (go_at_call 53; refine hct.mono ?_; rintro e w' ⟨rfl, rfl⟩))
        go_roundw
        case rel => exact ⟨k + 1, LA, ln, lc, by omega, by go_num, rfl, HST.out ▸ HO.out, hb⟩
        case measure => simp [intOf]; omega
      | false =>
        rw [h1] at hct hst
        simp only [Bool.not_false, Bool.true_and] at hst
        clear h1
        cases h2 : p.any (colB y (k : Int)) with
        | true =>
          rw [h2] at hic hst
          simp only [Bool.not_true, Bool.false_eq_true, if_false] at hst
          have HO := Lib.hid ho
          have HST := Lib.hid hst
          clear ho hst h2 hol hle
          go_wp2_with (first | (go_at_call 48; refine (sizeR_any _ _ _ _ (by omega)).mono ?_; rintro e w' ⟨rfl, rfl⟩) | (go_at_call 53; refine hct.mono ?_; rintro e w' ⟨rfl, rfl⟩) | (go_at_call 79; refine hic.mono ?_; rintro e w2 ⟨rfl, hb2⟩))
          go_roundw
          case rel => exact ⟨k + 1, LA, ln, lc, by omega, by go_num, rfl, HST.out ▸ HO.out.below hb2, hb.trans (hb2.mono hb.size)⟩
          case measure => simp [intOf]; omega
        | false =>
          rw [h2] at hic hst
          simp only [Bool.not_false, if_true] at hst
          have HO := Lib.hid ho
          have HST := Lib.hid hst
          have hbs := hb.size
          clear ho hst h2
          go_wp2_with (first | (go_at_call 48; refine (sizeR_any _ _ _ _ (by omega)).mono ?_; rintro e w' ⟨rfl, rfl⟩) | (go_at_call 53; refine hct.mono ?_; rintro e w' ⟨rfl, rfl⟩) | (go_at_call 79; refine hic.mono ?_; rintro e w2 ⟨rfl, hb2⟩; have hsz2 := hb2.size; have HO2 := Lib.hid (HO.out.below hb2)) | (at_builtin; refine app_int _ rfl (.tmp 29) (.tmp 31) rfl w.heap.size LA ln lc _ rfl HO2.out (k : Int) w2.heap.size rfl rfl hk64 (by omega) (by omega) ?_; intro A5 c5 w5 ho5 hg5 hf5; have hb5 := Lib.hid (below_own (hb.trans (hb2.mono hb.size)) hg5 (by omega) (fun b hb => (HO2.out.os.lt hb).1))))
          go_roundw
          case rel => exact ⟨k + 1, A5, ln + 1, c5, by omega, by go_num, rfl, HST.out ▸ ho5, hb5.out⟩
          case measure => simp [intOf]; omega
    · obtain rfl : k = n := by omega
      have HE := Lib.hid (show candTo p x y k = candP p x y by rw [← hla.out]; rfl)
      clear hct hic hst hle hol
      go_wp2_with (go_at_call 48; refine (sizeR_any _ _ _ _ (by omega)).mono ?_; rintro e w' ⟨rfl, rfl⟩)
      go_ret
      exact ⟨LA, ln, lc, rfl, HE.out ▸ ho, hb⟩
/-- the empty cells, below a number -/
def empTo (n : Nat) (p : List (List Int)) (k : Nat) : List Nat := (List.range k).filter fun c => atS p (c / n) (c % n) == -1
def natsI (l : List Nat) : List Int := l.map fun (c : Nat) => (c : Int)
theorem empTo_step (n : Nat) (p : List (List Int)) (x y : Nat) (hy : y < n) : empTo n p (x * n + y + 1) = if atS p x y = -1 then empTo n p (x * n + y) ++ [x * n + y] else empTo n p (x * n + y) := by
  have h1 : (x * n + y) / n = x := by
    rw [Nat.mul_comm, Nat.mul_add_div (by omega), Nat.div_eq_of_lt hy, Nat.add_zero]
  have h2 : (x * n + y) % n = y := by
    rw [Nat.mul_comm, Nat.mul_add_mod, Nat.mod_eq_of_lt hy]
  unfold empTo
  rw [List.range_succ, List.filter_append, List.filter_cons, List.filter_nil, h1, h2]
  by_cases h : atS p x y = -1
  · rw [if_pos (by simp [h]), if_pos h]
  · rw [if_neg (by simp [h]), if_neg h, List.append_nil]
theorem empTo_le (n : Nat) (p : List (List Int)) (k : Nat) : (empTo n p k).length ≤ k := Nat.le_trans (List.length_filter_le _ _) (by simp)
theorem natsI_len (l : List Nat) : (natsI l).length = l.length := by simp [natsI]
set_option maxRecDepth 100000 in
set_option maxHeartbeats 2000000 in
theorem emptyCells_any (A : Option Addr) (n c : Nat) (p : List (List Int)) (w : World) (ha : RR w A n p) (hn : n ≤ 1000) (hy : ∀ x, x < n → (row p x).length = n) :
    Calls Try.prog 80 #[.slice A n c] w fun e w' => ∃ LA ln lc, e = .returned (.slice LA ln lc) ∧ OI w' w.heap.size 2 LA ln lc (natsI (empP n p)) ∧ Below w.heap.size w w' := by
  have hla := Lib.hid ha.len
  have HY := Lib.hid hy
  clear hy
  go_enter Try.func80, Try.ntmps80
  go_wp2
  go_loopw [3, 4, 5, 6, 7, 10] (fun l _ _ _ _ i wr => ∃ (x : Nat) (LA : Option Addr) (ln lc : Nat), x ≤ n ∧ i = .int .i64 x ∧ l = .slice LA ln lc ∧ OI wr w.heap.size 2 LA ln lc (natsI (empTo n p (x * n))) ∧ Below w.heap.size w wr) (fun _ _ _ _ _ i _ => n - (intOf i).toNat)
  case atStart => exact ⟨0, none, 0, 0, Nat.zero_le _, rfl, rfl, by rw [Nat.zero_mul]; exact OI.nil_ _ _ _, Below.refl _ _⟩
  case round =>
    obtain ⟨x, LA, ln, lc, hx, rfl, rfl, ho, hb⟩ := hrel
    by_cases hlt : x < n
    · obtain ⟨ad, RX, rn, rc, rfl, hcx0, hrn, hrc, hRX⟩ := ha.get hlt
      have hcx := below_cell hb hcx0
      obtain rfl : rn = n := by rw [← hRX.len]; exact HY.out x hlt
      have hxn : (x + 1) * rn ≤ rn * rn := Nat.mul_le_mul_right rn hlt
      have hnn : rn * rn ≤ 1000 * 1000 := Nat.mul_le_mul hn hn
      have hxx : x * rn + rn ≤ 1000000 := by rw [Nat.succ_mul] at hxn; omega
      clear hxn hnn
      obtain ⟨b, hbe⟩ : ∃ b, x * rn = b := ⟨_, rfl⟩
      have hw1 : IntKind.i64.wrap ((x : Int) * (rn : Int)) = (b : Int) := by
        rw [IntKind.wrap_i64, ← hbe]
        have : ((x * rn : Nat) : Int) = (x : Int) * (rn : Int) := by push_cast; rfl
        rw [hbe] at this
        rw [← this, hbe]
        omega
      have HST := Lib.hid (fun y (hy : y < rn) => (by rw [← hbe]; exact empTo_step rn p x y hy : empTo rn p (b + y + 1) = if atS p x y = -1 then empTo rn p (b + y) ++ [b + y] else empTo rn p (b + y)))
      have HNX := Lib.hid (show (x + 1) * rn = b + rn by rw [Nat.succ_mul, hbe])
      have hle := fun k => empTo_le rn p k
      rw [hbe] at ho hxx
      clear hbe
      go_wp2
      go_loopw [3, 6, 7, 17] (fun l _ _ i wr => ∃ (y : Nat) (LA : Option Addr) (ln lc : Nat), y ≤ rn ∧ i = .int .i64 y ∧ l = .slice LA ln lc ∧ OI wr w.heap.size 2 LA ln lc (natsI (empTo rn p (b + y))) ∧ Below w.heap.size w wr) (fun _ _ _ i _ => rn - (intOf i).toNat)
      case atStart => exact ⟨0, LA, ln, lc, Nat.zero_le _, rfl, rfl, ho, hb⟩
      case round =>
        clear ho hcx hb
        obtain ⟨y, LA, ln, lc, hy, rfl, rfl, ho, hb2⟩ := hrel
        have hol := ho.len
        rw [natsI_len] at hol
        have hl2 := hle (b + y)
        by_cases hyl : y < rn
        · obtain ⟨ay, rfl, hcy, hiy⟩ := (hRX.keep hb2).get hyl
          have hst := HST.out y hyl
          by_cases he : atS p x y = -1
          · rw [if_pos he] at hst
            have he2 : nth (row p x) y = -1 := he
            rw [he2] at hcy hiy
            have HO := Lib.hid (show natsI (empTo rn p (b + y)) ++ [((b + y : Nat) : Int)] = natsI (empTo rn p (b + (y + 1))) by rw [← Nat.add_assoc, hst]; simp [natsI])
            have hbs := hb2.size
            have HH := Lib.hid ho
            have e64 : I64 ((b + y : Nat) : Int) := by unfold I64; omega
            have hw2 : IntKind.i64.wrap ((b : Int) + (y : Int)) = ((b + y : Nat) : Int) := by rw [IntKind.wrap_i64]; omega
            have hln : ln ≤ 1000000 := by omega
            clear ho hst he he2 hle
            generalize b + y = q at *
            go_wp2_with (at_builtin; refine app_int _ rfl (.tmp 24) (.tmp 31) rfl w.heap.size LA ln lc _ rfl HH.out (q : Int) wr.heap.size rfl rfl e64 (by omega) (by omega) ?_; intro A5 c5 w5 ho5 hg5 hf5; have hb5 := Lib.hid (below_own hb2 hg5 (by omega) (fun b hb => (HH.out.os.lt hb).1)))
            go_roundw
            case rel => exact ⟨y + 1, A5, ln + 1, c5, by omega, by go_num, rfl, HO.out ▸ ho5, hb5.out⟩
            case measure => simp [intOf]; omega
          · rw [if_neg he] at hst
            have hne : (nth (row p x) y == -1) = false := by simp; exact he
            have HO := Lib.hid (show OI wr w.heap.size 2 LA ln lc (natsI (empTo rn p (b + (y + 1)))) by rw [← Nat.add_assoc, hst]; exact ho)
            clear ho hst he hle
            generalize nth (row p x) y = z at *
            go_wp2
            go_roundw
            case rel => exact ⟨y + 1, LA, ln, lc, by omega, by go_num, rfl, HO.out, hb2⟩
            case measure => simp [intOf]; omega
        · obtain rfl : y = rn := by omega
          have HO := Lib.hid (show OI wr w.heap.size 2 LA ln lc (natsI (empTo y p ((x + 1) * y))) by rw [HNX.out]; exact ho)
          clear ho HST HNX hle
          go_wp2
          go_roundw
          case rel => exact ⟨x + 1, LA, ln, lc, by omega, by go_num, rfl, HO.out, hb2⟩
          case measure => simp [intOf]; omega
    · obtain rfl : x = n := by omega
      go_wp2
      go_ret
      exact ⟨LA, ln, lc, rfl, ho, hb⟩
end Go.Proofs.Ytcnjlkabdfcjdaa
/- Squares filled by a function value. No condition beyond those stated. -/
namespace Go.Proofs.Ytcnjlkabdfcjdaa
open Go.RowKit

/-- a function value that tells the symbol of each cell -/
def AskS (g : Nat) (lb : Array Value) (F : Nat → Nat → Int) (n : Nat) (w : World) : Prop :=
  ∀ (x y : Nat) (W : World), Below w.heap.size w W → x < n → y < n → Calls Try.prog g (#[.int .i64 x, .int .i64 y] ++ lb) W fun e w' => e = .returned (.int .i64 (F x y)) ∧ Below W.heap.size W w'
def fillR (F : Nat → Nat → Int) (x k : Nat) : List Int := (List.range k).map fun y => F x y
def fillS (F : Nat → Nat → Int) (n k : Nat) : List (List Int) := (List.range k).map fun x => fillR F x n
theorem fillR_step (F : Nat → Nat → Int) (x k : Nat) : fillR F x (k + 1) = fillR F x k ++ [F x k] := by simp [fillR, List.range_succ]
theorem fillS_step (F : Nat → Nat → Int) (n k : Nat) : fillS F n (k + 1) = fillS F n k ++ [fillR F k n] := by simp [fillS, List.range_succ]
theorem fillS_len (F : Nat → Nat → Int) (n k : Nat) : (fillS F n k).length = k := by simp [fillS]
theorem fillR_len (F : Nat → Nat → Int) (x k : Nat) : (fillR F x k).length = k := by simp [fillR]
theorem fillR_nth (F : Nat → Nat → Int) {x y k : Nat} (h : y < k) : nth (fillR F x k) y = F x y := by
  rw [nth_get (by rw [fillR_len]; exact h)]; simp [fillR]
theorem fillS_row (F : Nat → Nat → Int) {x n k : Nat} (h : x < k) : row (fillS F n k) x = fillR F x n := by
  rw [row_get (by rw [fillS_len]; exact h)]; simp [fillS]
theorem fillS_at (F : Nat → Nat → Int) {x y n : Nat} (hx : x < n) (hy : y < n) : atS (fillS F n n) x y = F x y := by
  unfold atS
  rw [fillS_row F hx, fillR_nth F hy]
set_option maxRecDepth 100000 in
set_option maxHeartbeats 2000000 in
theorem filledSquare_any (g : Nat) (lb : Array Value) (eg : ∀ args w, (callFunc g args).run Try.prog w = .ok (.enter g args) w) (F : Nat → Nat → Int) (n : Nat) (w : World) (hn : n ≤ 1000) (hF : ∀ x y, x < n → y < n → I64 (F x y)) (hp : AskS g lb F n w) :
    Calls Try.prog 58 #[.int .i64 n, .func (.func g) #[] lb] w fun e w' => ∃ A c, e = .returned (.slice A n c) ∧ OR w' w.heap.size 30 2 A n c (fillS F n n) ∧ Below w.heap.size w w' := by
  have HF := Lib.hid hF
  clear hF
  go_enter Try.func58, Try.ntmps58
  go_wp2
  go_loopw [5, 6, 7, 8] (fun l i _ _ wr => ∃ (x : Nat) (A : Option Addr) (c : Nat), x ≤ n ∧ i = .int .i64 x ∧ l = .slice A x c ∧ OR wr w.heap.size 30 2 A x c (fillS F n x) ∧ Below w.heap.size w wr) (fun _ i _ _ _ => n - (intOf i).toNat)
  case atStart => exact ⟨0, none, 0, Nat.zero_le _, rfl, rfl, OR.nil_ _ _ (by decide), Below.refl _ _⟩
  case round =>
    obtain ⟨x, A, c, hx, rfl, rfl, ho, hb⟩ := hrel
    by_cases hlt : x < n
    · generalize hwo : wr = wo at *
      clear hwo
      have HO := Lib.hid ho
      have HB := Lib.hid hb
      clear ho hb
      go_wp2
      go_loopw [7, 8] (fun l i wr => ∃ (y : Nat) (R : Option Addr) (rc : Nat), y ≤ n ∧ i = .int .i64 y ∧ l = .slice R y rc ∧ OI wr wo.heap.size 2 R y rc (fillR F x y) ∧ Below wo.heap.size wo wr) (fun _ i _ => n - (intOf i).toNat)
      case atStart => exact ⟨0, none, 0, Nat.zero_le _, rfl, rfl, OI.nil_ _ _ _, Below.refl _ _⟩
      case round =>
        obtain ⟨y, R, rc, hy, rfl, rfl, hor, hbr⟩ := hrel
        by_cases hyl : y < n
        · have hcall := hp x y wr (HB.out.trans (hbr.mono HB.out.size)) hlt hyl
          have h64 := HF.out x y hlt hyl
          have HR := Lib.hid hor
          have HST := Lib.hid (fillR_step F x y)
          generalize F x y = z at *
          clear hor
          go_wp2_with (first | (go_at_fn g; refine hcall.mono ?_; rintro e w4 ⟨rfl, hb4⟩; have HR4 := Lib.hid (HR.out.below hb4); have hbs4 := hb4.size; have hbrs := hbr.size) | (at_builtin; refine app_int _ rfl (.tmp 19) (.tmp 24) rfl wo.heap.size R y rc _ rfl HR4.out z w4.heap.size rfl rfl h64 (by omega) (by omega) ?_; intro A5 c5 w5 ho5 hg5 hf5; have hb5 := Lib.hid (below_own (hbr.trans (hb4.mono hbr.size)) hg5 (by omega) (fun b hb => (HR4.out.os.lt hb).1)); rw [← HST.out] at ho5))
          go_roundw
          case rel => exact ⟨y + 1, A5, c5, by omega, by go_num, rfl, ho5, hb5.out⟩
          case measure => simp [intOf]; omega
        · obtain rfl : y = n := by omega
          obtain ⟨vs, hov0⟩ := HO.out
          have hap := hov0.apart_new (v := (R, y, rc)) (fun b hb => (hor.os.lt hb).1)
          have ho1 := Lib.hid (hov0.below hbr)
          have hrow := Lib.hid (hor.more HB.out.size)
          have hbw := Lib.hid (HB.out.trans (hbr.mono HB.out.size))
          have hbs := hbw.out.size
          have HST := Lib.hid (fillS_step F y x)
          clear hov0 hor hbr
          go_wp2_with (at_builtin; refine app_row _ rfl (.tmp 26) (.tmp 28) rfl w.heap.size A x c vs (fillS F y x) rfl ho1.out (R, y, rc) (fillR F x y) hrow.out hap _ rfl rfl (by omega) hbs ?_; intro A3 c3 w3 ho3 hg3 hn3; have hb3 := Lib.hid (below_own hbw.out hg3 hbs (fun b hb => (ho1.out.os.lt hb).1)); rw [← HST.out] at ho3)
          go_roundw
          case rel => exact ⟨x + 1, A3, c3, by omega, by go_num, rfl, ⟨_, ho3⟩, hb3.out⟩
          case measure => simp [intOf]; omega
    · obtain rfl : x = n := by omega
      go_wp2
      go_ret
      exact ⟨A, c, rfl, ho, hb⟩
end Go.Proofs.Ytcnjlkabdfcjdaa
/- Plain law of transversals, as the law asks it. No program in sight. -/
namespace Go.Proofs.Ytcnjlkabdfcjdaa

/-- a transversal: columns that are a permutation, and so are the symbols -/
def TransOk (a : List (List Int)) (c : List Int) : Prop := c.length = a.length ∧ PermOk c ∧ PermOk (symT a c)
theorem symT_len (a : List (List Int)) (c : List Int) : (symT a c).length = c.length := by simp [symT]
theorem symT_nth {a : List (List Int)} {c : List Int} {i : Nat} (h : i < c.length) : nth (symT a c) i = nth (row a i) (nth c i).toNat := by
  rw [nth_get (by rw [symT_len]; exact h)]
  simp [symT]
theorem trans_iff {a : List (List Int)} (hq : Square a) (c : List Int) : TransOk a c ↔ PartT a c ∧ c.length = a.length := by
  have hn := hq.2.1
  constructor
  · rintro ⟨h1, h2, h3⟩
    refine ⟨⟨by omega, fun i hi => ?_, fun i j hij hj => h2.2.ne i j hij hj, fun i j hij hj => ?_⟩, h1⟩
    · have := h2.2.bd i hi
      rw [h1] at this
      exact this
    · have := h3.2.ne i j hij (by rw [symT_len]; exact hj)
      rwa [symT_nth (by omega), symT_nth hj] at this
  · rintro ⟨h, hl⟩
    refine ⟨hl, ⟨by omega, ⟨fun k hk => ?_, fun i j hij hj => h.col i j hij hj⟩⟩, ⟨by rw [symT_len]; omega, ⟨fun k hk => ?_, fun i j hij hj => ?_⟩⟩⟩
    · rw [hl]
      exact h.bd k hk
    · rw [symT_len] at hk
      have hb := h.bd k hk
      obtain ⟨r1, r2⟩ := hq.2.2.1 k (by omega)
      have := r2.bd (nth c k).toNat (by rw [r1]; omega)
      rw [symT_nth hk, symT_len, hl]
      rw [r1] at this
      exact this
    · rw [symT_len] at hj
      rw [symT_nth (by omega), symT_nth hj]
      exact h.sym i j hij hj
/-- the search that is not cut off -/
def trR (a : List (List Int)) (lim budget : Nat) : TSt := trS a lim a.length [] ⟨budget, false, []⟩
theorem trR_found {a : List (List Int)} {lim budget : Nat} (hl : 0 < lim) (h : (trR a lim budget).spent = false) : (trR a lim budget).found = (allT a a.length []).take lim := by
  have := trS_found a.length [] ⟨budget, false, []⟩ rfl hl h
  rwa [List.nil_append] at this
/-- what the law asks of the lists that are found -/
structure FoundOk (a : List (List Int)) (lim : Nat) (L : List (List Int)) : Prop where
  len : L.length ≤ lim
  trans : ∀ i, i < L.length → TransOk a (row L i)
  up : ∀ i, i + 1 < L.length → cmpL (row L i) (row L (i + 1)) = -1
  rest : ∀ p, TransOk a p → p ∉ L → L.length = lim ∧ cmpL (row L (lim - 1)) p = -1
theorem found_ok {a : List (List Int)} (hq : Square a) {lim budget : Nat} (hl : 0 < lim) (h : (trR a lim budget).spent = false) : FoundOk a lim (trR a lim budget).found := by
  rw [trR_found hl h]
  have hP := PartT.nil a
  have hs := allT_strict a.length [] hP (by simp)
  have hm := allT_mem a.length [] hP (by simp)
  have neg1 : ∀ x y : List Int, cmpL x y < 0 → cmpL x y = -1 := fun x y h => by have := cmpL_bd x y; omega
  refine ⟨by rw [List.length_take]; omega, fun i hi => ?_, fun i hi => ?_, fun p hp hn => ?_⟩
  · rw [row_get hi]
    have := List.mem_of_mem_take (List.getElem_mem hi)
    obtain ⟨h1, h2, -⟩ := (hm _).1 this
    exact (trans_iff hq _).2 ⟨h1, h2⟩
  · rw [row_get (by omega), row_get hi]
    have := List.pairwise_iff_getElem.1 (List.Pairwise.sublist (List.take_sublist lim _) hs) i (i + 1) (by omega) hi (by omega)
    exact neg1 _ _ this
  · obtain ⟨h1, h2⟩ := (trans_iff hq p).1 hp
    have hpm := (hm p).2 ⟨h1, h2, by simp⟩
    obtain ⟨g1, g2⟩ := first_of hs hpm hn
    exact ⟨g1, neg1 _ _ (g2 (lim - 1) (by omega))⟩
/-- where there is one, one is found -/
theorem found_some {a : List (List Int)} (hq : Square a) {budget : Nat} (h : (trR a 1 budget).spent = false) {p : List Int} (hp : TransOk a p) : (trR a 1 budget).found.length = 1 := by
  have hF := found_ok hq (lim := 1) (by decide) h
  by_cases hm : p ∈ (trR a 1 budget).found
  · have := List.length_pos_of_mem hm
    have := hF.len
    omega
  · exact (hF.rest p hp hm).1
end Go.Proofs.Ytcnjlkabdfcjdaa
