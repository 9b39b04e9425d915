/- What the drawn laws share: lengths of inputs, numbers chosen by bytes, numbers looked for in a list. No condition beyond those stated. -/
import Derived.Test.YtcnjlkabdfcjdaaProg
import Derived.Test.YtcnjlkabdfcjdaaZAA
import Derived.Test.YtcnjlkabdfcjdaaZAC
import Derived.Test.YtcnjlkabdfcjdaaZAP
import Derived.Test.YtcnjlkabdfcjdaaZAI
import Derived.Test.YtcnjlkabdfcjdaaZAJ
import Derived.ProofKit
import Derived.OpenShut
import Derived.Lib.SmallJoins
import Derived.Deep.Matrix
set_option linter.unusedVariables false
set_option linter.unusedSimpArgs false
namespace Go.Proofs.Ytcnjlkabdfcjdaa
open Go.RowKit

set_option maxHeartbeats 400000 in
theorem b10Long_yes (A : Option Addr) (n c : Nat) (w : World) (hn : 1048576 < n) : Calls Try.prog 7 #[.slice A n c] w fun e w' => e = .returned (.bool true) ∧ w = w' := by
  have h : (n : Int) > 1048576 := by omega
  go_enter Try.func7, Try.ntmps7
  go_wp2
  go_ret
  exact ⟨by simp, rfl⟩
set_option maxHeartbeats 400000 in
theorem b10Long_no (A : Option Addr) (n c : Nat) (w : World) (hn : n ≤ 1048576) : Calls Try.prog 7 #[.slice A n c] w fun e w' => e = .returned (.bool false) ∧ w = w' := by
  have h : ¬ (n : Int) > 1048576 := by omega
  go_enter Try.func7, Try.ntmps7
  go_wp2
  go_ret
  exact ⟨by simp, rfl⟩
/-- the number that a byte chooses, or its index behind the end -/
def atP (zs : List Int) (i k : Int) : Int := if k ≤ 1 then 0 else if i < zs.length then nth zs i.toNat % k else (i * 37 + 11) % k
theorem atP_bd {zs : List Int} {i k : Int} (h : 1 ≤ k) : 0 ≤ atP zs i k ∧ atP zs i k < k := by
  unfold atP
  split
  · omega
  · split
    · exact ⟨Int.emod_nonneg _ (by omega), Int.emod_lt_of_pos _ (by omega)⟩
    · exact ⟨Int.emod_nonneg _ (by omega), Int.emod_lt_of_pos _ (by omega)⟩
set_option maxHeartbeats 1000000 in
theorem b10At_any (A : Option Addr) (n c : Nat) (zs : List Int) (i : Nat) (k : Int) (w : World) (ha : RS EByte w A n zs) (hi2 : i ≤ 1000000) (hk2 : k ≤ 1000000) (hn : n ≤ 9223372036854775807) :
    Calls Try.prog 20 #[.slice A n c, .int .i64 i, .int .i64 k] w fun e w' => e = .returned (.int .i64 (atP zs i k)) ∧ w = w' := by
  have hla := Lib.hid ha.len
  by_cases h0 : k ≤ 1
  · have HA := Lib.hid (show atP zs i k = 0 by rw [atP, if_pos h0])
    go_enter Try.func20, Try.ntmps20
    go_wp2
    go_ret
    exact ⟨by rw [HA.out]; rfl, rfl⟩
  · by_cases hlt : i < n
    · have HA := Lib.hid (show atP zs i k = nth zs i % k by rw [atP, if_neg h0, if_pos (by rw [hla.out]; omega), Int.toNat_natCast])
      obtain ⟨ad, u, x, rfl, hx, hc, rfl, x0, x1⟩ := ha.get hlt
      have HX := Lib.hid (nth_eq hx)
      have h0' : 1 < k := by omega
      clear hx h0
      go_enter Try.func20, Try.ntmps20
      go_wp2
      go_ret
      exact ⟨by rw [HA.out, HX.out]; rfl, rfl⟩
    · have HA := Lib.hid (show atP zs i k = ((i : Int) * 37 + 11) % k by rw [atP, if_neg h0, if_neg (by rw [hla.out]; omega)])
      have h0' : 1 < k := by omega
      have hge : n ≤ i := by omega
      clear h0
      go_enter Try.func20, Try.ntmps20
      go_wp2
      go_ret
      exact ⟨by rw [HA.out]; rfl, rfl⟩
end Go.Proofs.Ytcnjlkabdfcjdaa
/- What the drawn laws ask of squares: one keeps another's symbols, its numbers in a row. No condition beyond those stated. -/
namespace Go.Proofs.Ytcnjlkabdfcjdaa
open Go.RowKit

set_option maxHeartbeats 800000 in
theorem b10Square_yes (A : Option Addr) (n c : Nat) (a : List (List Int)) (w : World) (ha : RR w A n a) (hn : n ≤ 1000) (hs : ∀ i, i < n → (row a i).length = n) :
    Calls Try.prog 51 #[.slice A n c, .int .i64 n] w (fun e w' => e = .returned (.bool true) ∧ w = w') := by
  have HS := Lib.hid hs
  clear hs
  go_enter Try.func51, Try.ntmps51
  go_wp2
  go_loopw [5] (fun i wr => ∃ k : Nat, k ≤ n ∧ i = .int .i64 k ∧ w = wr) (fun i _ => n - (intOf i).toNat)
  case atStart => exact ⟨0, Nat.zero_le _, rfl, by trivial⟩
  case round =>
    obtain ⟨k, hk, rfl, rfl⟩ := hrel
    by_cases hlt : k < n
    · obtain ⟨ad, RX, rn, rc, rfl, hcx, hrn, hrc, hRX⟩ := ha.get hlt
      obtain rfl : rn = n := by rw [← hRX.len]; exact HS.out k hlt
      go_wp2
      go_roundw
      case rel => exact ⟨k + 1, by omega, by go_num, by trivial⟩
      case measure => simp [intOf]; omega
    · go_wp2
      go_ret
      exact ⟨rfl, rfl⟩
set_option maxRecDepth 100000 in
set_option maxHeartbeats 2000000 in
theorem b10Keeps_yes (A : Option Addr) (n c : Nat) (p : List (List Int)) (B : Option Addr) (d : Nat) (a : List (List Int)) (w : World) (hp : RR w A n p) (ha : RR w B n a) (hn : n ≤ 1000) (hs : ∀ i, i < n → (row p i).length = n) (ht : ∀ i, i < n → (row a i).length = n)
    (hk : ∀ x y, x < n → y < n → 0 ≤ atS p x y → atS p x y = atS a x y) :
    Calls Try.prog 19 #[.slice A n c, .slice B n d] w (Quiet w (.bool true)) := by
  have HS := Lib.hid hs
  have HT := Lib.hid ht
  have HK := Lib.hid hk
  have h1 := b10Square_yes A n c p w hp hn hs
  have h2 := b10Square_yes B n d a w ha hn ht
  clear hs ht hk
  go_enter Try.func19, Try.ntmps19
  go_wp2_with (fail)
  refine h1.mono ?_
  rintro e w' ⟨rfl, rfl⟩
  go_wp2_with (fail)
  refine h2.mono ?_
  rintro e w' ⟨rfl, rfl⟩
  clear h1 h2
  go_wp2
  go_loopw [6, 7] (fun i _ wr => ∃ k : Nat, k ≤ n ∧ i = .int .i64 k ∧ Drawn w wr) (fun i _ _ => n - (intOf i).toNat)
  case atStart => exact ⟨0, Nat.zero_le _, rfl, Drawn.refl _⟩
  case round =>
    obtain ⟨x, hx, rfl, hd⟩ := hrel
    by_cases hlt : x < n
    · go_wp2
      go_loopw [7] (fun i wr => ∃ k : Nat, k ≤ n ∧ i = .int .i64 k ∧ Drawn w wr) (fun i _ => n - (intOf i).toNat)
      case atStart => exact ⟨0, Nat.zero_le _, rfl, hd⟩
      case round =>
        clear hd
        obtain ⟨y, hy, rfl, hd⟩ := hrel
        by_cases hyl : y < n
        · obtain ⟨ad, RX, rn, rc, rfl, hcx, hrn, hrc, hRX⟩ := (hp.drawn hd).get hlt
          obtain rfl : rn = n := by rw [← hRX.len]; exact HS.out x hlt
          obtain ⟨bd, RY, sn, sc, rfl, hcy, hsn, hsc, hRY⟩ := (ha.drawn hd).get hlt
          obtain rfl : sn = rn := by rw [← hRY.len]; exact HT.out x hlt
          obtain ⟨ax, rfl, hcz, -⟩ := hRX.get hyl
          obtain ⟨ay, rfl, hcu, -⟩ := hRY.get hyl
          have hkk := HK.out x y hlt hyl
          unfold atS at hkk
          generalize nth (row p x) y = z1 at *
          generalize nth (row a x) y = z2 at *
          by_cases h0 : z1 ≥ 0
          · have e := hkk h0
            subst e
            have hd0 : decide (z1 ≥ 0) = true := by simp; omega
            clear hkk h0
            go_wp2
            go_quiet (fail)
            go_wp2
            go_roundw
            case rel => exact ⟨y + 1, by omega, by go_num, hd.more _⟩
            case measure => simp [intOf]; omega
          · have hd0 : decide (z1 ≥ 0) = false := by simp; omega
            clear hkk h0
            go_wp2
            go_quiet (fail)
            go_wp2
            go_roundw
            case rel => exact ⟨y + 1, by omega, by go_num, hd.more _⟩
            case measure => simp [intOf]; omega
        · go_wp2
          go_roundw
          case rel => exact ⟨x + 1, by omega, by go_num, hd⟩
          case measure => simp [intOf]; omega
    · go_wp2
      go_ret
      exact ⟨rfl, hd⟩
theorem flat_step (a : List (List Int)) {k : Nat} (h : k < a.length) : (a.take (k + 1)).flatten = (a.take k).flatten ++ row a k := by
  rw [List.take_succ_eq_append_getElem h, List.flatten_append, row_get h]
  simp
theorem flat_take_len (a : List (List Int)) {n : Nat} (h : ∀ i, i < a.length → (row a i).length = n) : ∀ k, k ≤ a.length → (a.take k).flatten.length = k * n
  | 0, _ => by simp
  | k + 1, hk => by
    rw [flat_step a (by omega), List.length_append, flat_take_len a h k (by omega), h k (by omega), Nat.succ_mul]
set_option maxRecDepth 100000 in
set_option maxHeartbeats 2000000 in
theorem b10Flat_any (A : Option Addr) (n c : Nat) (a : List (List Int)) (w : World) (ha : RR w A n a) (hn : n ≤ 1000) (ht : ∀ i, i < n → (row a i).length = n) :
    Calls Try.prog 22 #[.slice A n c] w (fun e w' => ∃ LA ln lc, e = .returned (.slice LA ln lc) ∧ OI w' w.heap.size 2 LA ln lc (flatP a) ∧ Below w.heap.size w w') := by
  have hl := ha.len
  have hfl := flat_take_len a (n := n) (by rw [hl]; exact ht)
  rw [hl] at hfl
  have HT := Lib.hid ht
  have HF := Lib.hid hfl
  have HL := Lib.hid hl
  clear ht hfl hl
  have hb1 := below_alloc w (.cells #[] 2)
  have ho1 : OI (w.alloc (.cells #[] 2)) w.heap.size 2 (some ⟨w.heap.size, 0, none⟩) 0 0 ((a.take 0).flatten) := by simpa [ints] using OI.lit w w.heap.size 2 [] (Nat.le_refl _) (by simp) (by simp [All64])
  go_enter Try.func22, Try.ntmps22
  go_wp2
  go_loopw [3, 4] (fun l i wr => ∃ (k : Nat) (LA : Option Addr) (ln lc : Nat), k ≤ n ∧ i = .int .i64 k ∧ l = .slice LA ln lc ∧ OI wr w.heap.size 2 LA ln lc ((a.take k).flatten) ∧ Below w.heap.size w wr) (fun _ i _ => n - (intOf i).toNat)
  case atStart => exact ⟨0, _, 0, 0, Nat.zero_le _, rfl, rfl, ho1, hb1⟩
  case round =>
    clear ho1 hb1
    obtain ⟨k, LA, ln, lc, hk, rfl, rfl, ho, hb⟩ := hrel
    have hln := ho.len
    rw [HF.out k hk] at hln
    have hkn : k * n ≤ 1000 * 1000 := Nat.mul_le_mul (by omega) hn
    by_cases hlt : k < n
    · obtain ⟨ad, RX, rn, rc, rfl, hcx0, hrn, hrc, hRX⟩ := ha.get hlt
      obtain rfl : rn = n := by rw [← hRX.len]; exact HT.out k hlt
      have hcx := below_cell hb hcx0
      have hRX1 := hRX.keep hb
      have HO := Lib.hid ho
      have HST := Lib.hid (flat_step a (k := k) (by rw [HL.out]; exact hlt))
      have hbs := hb.size
      have hln2 : ln ≤ 1000000 := by omega
      clear ho hln hkn
      go_wp2_with (at_builtin; refine app_ints _ rfl (.tmp 12) (.tmp 16) rfl w.heap.size LA ln lc _ rfl HO.out RX rn rc (row a k) rfl hRX1 (by omega) (by omega) ?_; intro A5 c5 w5 ho5 hg5 hf5; have hb5 := Lib.hid (below_own hb hg5 (by omega) (fun b hb => (HO.out.os.lt hb).1)); rw [← HST.out] at ho5)
      go_roundw
      case rel => exact ⟨k + 1, A5, ln + rn, c5, by omega, by go_num, rfl, ho5, hb5.out⟩
      case measure => simp [intOf]; omega
    · obtain rfl : k = n := by omega
      have HE := Lib.hid (show (a.take k).flatten = flatP a by rw [List.take_of_length_le (by rw [HL.out]; exact Nat.le_refl _)]; rfl)
      go_wp2
      go_ret
      exact ⟨LA, ln, lc, rfl, HE.out ▸ ho, hb⟩
end Go.Proofs.Ytcnjlkabdfcjdaa
/- What the drawn laws share: lists compared, lists looked for, permutations chosen by bytes. No condition beyond those stated. -/
namespace Go.Proofs.Ytcnjlkabdfcjdaa
open Go.RowKit

set_option maxHeartbeats 400000 in
theorem b10Nums_any (A B : Option Addr) (n m c d : Nat) (xs ys : List Int) (w : World) (ha : RI w A n xs) (hb : RI w B m ys) (hn : n ≤ 9223372036854775807) (hm : m ≤ 9223372036854775807) :
    Calls Try.prog 44 #[.slice A n c, .slice B m d] w (Quiet w (.bool (decide (xs = ys)))) := by
  have hla := Lib.hid ha.len
  have hlb := Lib.hid hb.len
  by_cases h : n = m
  · subst h
    go_enter Try.func44, Try.ntmps44
    go_wp2
    go_loopw [5] (fun i wr => ∃ k : Nat, k ≤ n ∧ i = .int .i64 k ∧ Drawn w wr ∧ upTo xs ys k) (fun i _ => n - (intOf i).toNat)
    case atStart => exact ⟨0, Nat.zero_le _, rfl, Drawn.refl _, fun _ h => absurd h (by omega)⟩
    case round =>
      obtain ⟨k, hk, rfl, hd, hu⟩ := hrel
      by_cases hlt : k < n
      · obtain ⟨a, rfl, hca, hia⟩ := (ha.drawn hd).get hlt
        obtain ⟨b, rfl, hcb, hib⟩ := (hb.drawn hd).get hlt
        by_cases he : nth xs k = nth ys k
        · have he' : (nth xs k != nth ys k) = false := by simp [he]
          have H := Lib.hid (upTo_step hu he); clear hu he
          go_wp2
          go_quiet (fail)
          go_wp2
          go_roundw
          case rel => exact ⟨k + 1, by omega, by go_num, hd.more _, H.out⟩
          case measure => simp [intOf]; omega
        · have he' : (nth xs k != nth ys k) = true := by simp [he]
          have H := Lib.hid (show decide (xs = ys) = false by simp; rintro rfl; exact he rfl)
          clear he hu
          go_wp2
          go_quiet (fail)
          go_wp2
          go_ret
          exact ⟨by rw [H.out]; rfl, hd.more _⟩
      · have H := Lib.hid (show decide (xs = ys) = true by simp; exact upTo_all (by rw [hla.out, hlb.out]) (fun j hj => hu j (by have := hla.out; omega)))
        clear hu
        go_wp2
        go_ret
        exact ⟨by rw [H.out]; rfl, hd⟩
  · have h' : ((n : Int) != (m : Int)) = true := by simp; omega
    have H := Lib.hid (show decide (xs = ys) = false by simp; rintro rfl; exact h (hla.out.symm.trans hlb.out))
    clear h
    go_enter Try.func44, Try.ntmps44
    go_wp2
    go_ret
    exact ⟨by rw [H.out]; rfl, Drawn.refl _⟩
set_option maxHeartbeats 400000 in
theorem b10Lists_any (A B : Option Addr) (n m c d : Nat) (xs ys : List (List Int)) (w : World) (ha : RR w A n xs) (hb : RR w B m ys) (hn : n ≤ 9223372036854775807) (hm : m ≤ 9223372036854775807) :
    Calls Try.prog 30 #[.slice A n c, .slice B m d] w (Quiet w (.bool (decide (xs = ys)))) := by
  have hla := Lib.hid ha.len
  have hlb := Lib.hid hb.len
  by_cases h : n = m
  · subst h
    go_enter Try.func30, Try.ntmps30
    go_wp2
    go_loopw [5] (fun i wr => ∃ k : Nat, k ≤ n ∧ i = .int .i64 k ∧ Drawn w wr ∧ upToR xs ys k) (fun i _ => n - (intOf i).toNat)
    case atStart => exact ⟨0, Nat.zero_le _, rfl, Drawn.refl _, fun _ h => absurd h (by omega)⟩
    case round =>
      obtain ⟨k, hk, rfl, hd, hu⟩ := hrel
      by_cases hlt : k < n
      · obtain ⟨a, A1, n1, c1, rfl, hca, hn1, hc1, ha1⟩ := (ha.drawn hd).get hlt
        obtain ⟨b, B1, m1, d1, rfl, hcb, hm1, hd1, hb1⟩ := (hb.drawn hd).get hlt
        by_cases he : row xs k = row ys k
        · have he' : decide (row xs k = row ys k) = true := by simp [he]
          have H := Lib.hid (upToR_step hu he); clear hu he
          go_wp2
          go_quiet ((go_at_call 44; exact Quiet.call (b10Nums_any A1 B1 n1 m1 c1 d1 (row xs k) (row ys k) _ (ha1.drewN _) (hb1.drewN _) (by omega) (by omega))))
          go_wp2
          go_roundw
          case rel => exact ⟨k + 1, by omega, by go_num, hd.more _, H.out⟩
          case measure => simp [intOf]; omega
        · have he' : decide (row xs k = row ys k) = false := by simp [he]
          have H := Lib.hid (show decide (xs = ys) = false by simp; rintro rfl; exact he rfl)
          clear he hu
          go_wp2
          go_quiet ((go_at_call 44; exact Quiet.call (b10Nums_any A1 B1 n1 m1 c1 d1 (row xs k) (row ys k) _ (ha1.drewN _) (hb1.drewN _) (by omega) (by omega))))
          go_wp2
          go_ret
          exact ⟨by rw [H.out]; rfl, hd.more _⟩
      · have H := Lib.hid (show decide (xs = ys) = true by simp; exact upToR_all (by rw [hla.out, hlb.out]) (fun j hj => hu j (by have := hla.out; omega)))
        clear hu
        go_wp2
        go_ret
        exact ⟨by rw [H.out]; rfl, hd⟩
  · have h' : ((n : Int) != (m : Int)) = true := by simp; omega
    have H := Lib.hid (show decide (xs = ys) = false by simp; rintro rfl; exact h (hla.out.symm.trans hlb.out))
    clear h
    go_enter Try.func30, Try.ntmps30
    go_wp2
    go_ret
    exact ⟨by rw [H.out]; rfl, Drawn.refl _⟩
/-- where a list first stands among lists, or -1 -/
def firstL : List (List Int) → List Int → Int
  | [], _ => -1
  | y :: ys, x => if y = x then 0 else if firstL ys x < 0 then -1 else firstL ys x + 1
theorem firstL_neg : ∀ (L : List (List Int)) (x : List Int), firstL L x < 0 ↔ x ∉ L
  | [], x => by simp [firstL]
  | y :: ys, x => by
    have ih := firstL_neg ys x
    unfold firstL
    by_cases h : y = x
    · rw [if_pos h]; simp [h]
    · rw [if_neg h]
      by_cases k : firstL ys x < 0
      · rw [if_pos k]; have := ih.1 k; simp [this, Ne.symm h]
      · rw [if_neg k]
        have : x ∈ ys := by
          by_cases m : x ∈ ys
          · exact m
          · exact absurd (ih.2 m) k
        simp [this]; omega
set_option maxHeartbeats 800000 in
theorem b10Index_any (A : Option Addr) (n c : Nat) (L : List (List Int)) (B : Option Addr) (m d : Nat) (x : List Int) (w : World) (ha : RR w A n L) (hb : RI w B m x) (hn : n ≤ 9223372036854775807) (hm : m ≤ 9223372036854775807) :
    Calls Try.prog 14 #[.slice A n c, .slice B m d] w (fun e w' => ∃ k : Int, e = .returned (.int .i64 k) ∧ Drawn w w' ∧ ((0 ≤ k ∧ x ∈ L) ∨ (k = -1 ∧ x ∉ L))) := by
  have hla := Lib.hid ha.len
  go_enter Try.func14, Try.ntmps14
  go_wp2
  go_loopw [5] (fun i wr => ∃ k : Nat, k ≤ n ∧ i = .int .i64 k ∧ Drawn w wr ∧ ∀ j, j < k → row L j ≠ x) (fun i _ => n - (intOf i).toNat)
  case atStart => exact ⟨0, Nat.zero_le _, rfl, Drawn.refl _, fun _ h => by omega⟩
  case round =>
    obtain ⟨k, hk, rfl, hd, hno⟩ := hrel
    have HN := Lib.hid hno
    clear hno
    by_cases hlt : k < n
    · obtain ⟨ad, A1, n1, c1, rfl, hc, hn1, hc1, ha1⟩ := (ha.drawn hd).get hlt
      have hcall := b10Nums_any A1 B n1 m c1 d (row L k) x wr ha1 (hb.drawn hd) (by omega) hm
      have HK := Lib.hid (show k < L.length by rw [hla.out]; exact hlt)
      by_cases he : row L k = x
      · rw [show decide (row L k = x) = true by simp [he]] at hcall
        have HM := Lib.hid (show x ∈ L by rw [← he, row_get HK.out]; exact List.getElem_mem HK.out)
        clear he
        go_wp2_with fail
        refine hcall.mono ?_
        rintro e w2 ⟨rfl, hd2⟩
        go_wp2
        go_ret
        exact ⟨(k : Int), rfl, hd.trans hd2, .inl ⟨by omega, HM.out⟩⟩
      · rw [show decide (row L k = x) = false by simp [he]] at hcall
        have HY := Lib.hid (fun (j : Nat) (hj : j < k + 1) => show row L j ≠ x from by
          by_cases e : j = k
          · rw [e]; exact he
          · exact HN.out j (by omega))
        clear he
        go_wp2_with fail
        refine hcall.mono ?_
        rintro e w2 ⟨rfl, hd2⟩
        go_wp2
        go_roundw
        case rel => exact ⟨k + 1, by omega, by go_num, hd.trans hd2, HY.out⟩
        case measure => simp [intOf]; omega
    · go_wp2
      go_ret
      refine ⟨-1, rfl, hd, .inr ⟨rfl, fun hm => ?_⟩⟩
      obtain ⟨j, hj, e⟩ := List.mem_iff_getElem.1 hm
      exact HN.out j (by have := hla.out; omega) (by rw [row_get hj]; exact e)
/-- a call that makes a permutation -/
def RetPm (w : World) (n : Nat) (e : Ending) (w' : World) : Prop := ∃ A c zs, e = .returned (.slice A n c) ∧ OI w' w.heap.size 2 A n c zs ∧ zs.length = n ∧ Perm zs ∧ Below w.heap.size w w'
theorem iota_takeB {n k : Nat} (h : k < n) : (iotaP n).take k ++ [(k : Int)] = (iotaP n).take (k + 1) := by
  rw [List.take_succ_eq_append_getElem (by rw [iotaP_len]; exact h), ← nth_get (by rw [iotaP_len]; exact h), iotaP_nth h]
set_option maxRecDepth 100000 in
set_option maxHeartbeats 800000 in
theorem b10Perm_any (A0 : Option Addr) (n0 c0 n : Nat) (bs : List Int) (w : World) (ha : RS EByte w A0 n0 bs) (hn0 : n0 ≤ 9223372036854775807) (hn : n ≤ 1000) :
    Calls Try.prog 13 #[.slice A0 n0 c0, .int .i64 n] w (RetPm w n) := by
  go_enter Try.func13, Try.ntmps13
  go_wp2
  have hb1 := below_alloc w (.cells #[] 2)
  have ho0 : OI (w.alloc (.cells #[] 2)) w.heap.size 2 (some ⟨w.heap.size, 0, none⟩) 0 0 ((iotaP n).take 0) := by simpa [ints] using OI.lit w w.heap.size 2 [] (Nat.le_refl _) (by simp) (by simp [All64])
  go_loopw [5, 6] (fun l i wr => ∃ (k : Nat) (A' : Option Addr) (c' : Nat), k ≤ n ∧ i = .int .i64 k ∧ l = .slice A' k c' ∧ OI wr w.heap.size 2 A' k c' ((iotaP n).take k) ∧ Below w.heap.size w wr) (fun _ i _ => n - (intOf i).toNat)
  case atStart => exact ⟨0, _, 0, Nat.zero_le _, rfl, rfl, ho0, hb1⟩
  case round =>
    clear ho0 hb1
    obtain ⟨k, A', c', hk, rfl, rfl, ho, hw⟩ := hrel
    by_cases hlt : k < n
    · have HN := Lib.hid (iota_takeB hlt)
      have hki : I64 (k : Int) := by unfold I64; omega
      have hws := hw.size
      go_wp2_with (at_builtin; refine app_int _ rfl (.tmp 16) (.tmp 18) rfl w.heap.size A' k c' _ rfl ho (k : Int) wr.heap.size rfl rfl hki (by omega) hws ?_; intro A4 c4 w4 ho4 hg4 hf4; have hb4 := below_own hw hg4 hws (fun q hq => (ho.os.lt hq).1))
      rw [HN.out] at ho4
      go_roundw
      case rel => exact ⟨k + 1, A4, c4, by omega, by go_num, rfl, ho4, hb4⟩
      case measure => simp [intOf]; omega
    · obtain rfl : k = n := by omega
      rw [List.take_of_length_le (by rw [iotaP_len]; exact Nat.le_refl _)] at ho
      have HI : (iotaP k).length = k ∧ Perm (iotaP k) := ⟨iotaP_len _, iotaP_perm _⟩
      generalize iotaP k = zs at *
      go_wp2
      go_loopw [7] (fun i wr => ∃ (k2 : Int) (zs : List Int), -1 ≤ k2 ∧ k2 < k ∧ i = .int .i64 k2 ∧ OI wr w.heap.size 2 A' k c' zs ∧ (zs.length = k ∧ Perm zs) ∧ Below w.heap.size w wr) (fun i _ => (intOf i + 1).toNat)
      case atStart => exact ⟨(k : Int) - 1, zs, by omega, by omega, by go_num, ho, HI, hw⟩
      case round =>
        clear ho HI hw
        obtain ⟨k2, zs, h1, h2, rfl, ho, HI, hw⟩ := hrel
        by_cases hlt2 : 0 < k2
        · obtain ⟨i, rfl⟩ := Int.eq_ofNat_of_zero_le (show 0 ≤ k2 by omega)
          obtain ⟨x0, x1⟩ := atP_bd (zs := bs) (i := i) (k := (i : Int) + 1) (by omega)
          have hat := b10At_any A0 n0 c0 bs i ((i : Int) + 1) wr (EBytes.keep ha hw) (by omega) (by omega) hn0
          obtain ⟨y, hy⟩ := Int.eq_ofNat_of_zero_le x0
          rw [hy] at hat x1
          clear hy x0
          obtain ⟨ga, rfl, hci, hfi, hii⟩ := ho.cell (k := i) (by omega)
          obtain ⟨ga', hga, hcy, hfy, hiy⟩ := ho.cell (k := y) (by omega)
          cases hga
          have HP := perm_swap HI.1 HI.2 (i := i) (k := y) (by omega) (by omega)
          have ho3 := (ho.set i hiy).set y hii
          obtain ⟨ga', hga, hcy2, hfy2, -⟩ := (ho.set i hiy).cell (k := y) (by omega)
          cases hga
          generalize nth (zs.set i (nth zs y)) y = b2 at *
          have hlo := (ho.os.lt (k := ga) rfl).1
          have hw3 := (hw.setCell (p := ⟨ga, i, none⟩) hlo (.int .i64 (nth zs y))).setCell (p := ⟨ga, y, none⟩) hlo (.int .i64 (nth zs i))
          generalize nth zs i = a at *
          generalize nth zs y = b at *
          clear hw ho HI
          go_wp2_with fail
          refine hat.mono ?_
          rintro e w2 ⟨rfl, rfl⟩
          go_wp2
          go_roundw
          case rel => exact ⟨(i : Int) - 1, _, by omega, by omega, by go_num, ho3, HP, hw3⟩
          case measure => simp [intOf] <;> omega
        · go_wp2
          go_ret
          exact ⟨A', c', zs, rfl, ho, HI.1, HI.2, hw⟩
end Go.Proofs.Ytcnjlkabdfcjdaa
/- From the form's reading of an argument to this proof's words: a slice of numbers, of bytes, of slices of numbers. No condition beyond those stated. -/
namespace Go.Proofs.Ytcnjlkabdfcjdaa
open Go.ChangeShapes Go.WideShapes Go.ChangeAt Go.RowKit Go.Deep

section
variable {H : Type} {enc : TypeId × Value → H} {P : Program} {w : World} {fuel : Nat}
theorem open_RI {t e : TypeId} {v : Value} {x : DataW H × List MemPlace} (ht : P.underlying t = some (.slice e)) (he : P.underlying e = some (.int .i64)) (hc : P.cellsOf e = 1)
    (h : DataW.trod enc P w 0 (fun _ => true) true fuel t [v] = some x) : ∃ A n c zs, v = .slice A n c ∧ n ≤ c ∧ c ≤ 9223372036854775807 ∧ RI w A n zs := by
  rcases open_ints ht he hc h with ⟨hcs, _⟩ | ⟨a, len, cap, zs, hcs, _, hl, hm, hz, _, hcell, hwz⟩
  · simp at hcs
    exact ⟨none, 0, 0, [], hcs, by omega, by omega, RS.nil_ _ _ _⟩
  · simp at hcs hz
    refine ⟨some a, len, cap, zs.take len, hcs, hl, by unfold maxLen at hm; exact hm, ?_, fun j y hy => ?_⟩
    · rw [List.length_take]; omega
    · rw [List.getElem?_take] at hy
      split at hy
      · rename_i hj
        have hj' : j < zs.length := by omega
        have e1 : zs.getD j 0 = y := by simp [List.getD, hy]
        refine ⟨a, _, rfl, hcell j hj', by rw [e1], ?_⟩
        exact I64.of_wf (hwz y (List.mem_of_getElem? hy))
      · cases hy
theorem open_RR {t e q : TypeId} {v : Value} {x : DataW H × List MemPlace} (ht : P.underlying t = some (.slice e)) (he : P.underlying e = some (.slice q)) (hq : P.underlying q = some (.int .i64))
    (ce : P.cellsOf e = 1) (cq : P.cellsOf q = 1) (h : DataW.trod enc P w 0 (fun _ => true) true fuel t [v] = some x) :
    ∃ A n c zss, v = .slice A n c ∧ n ≤ c ∧ c ≤ 9223372036854775807 ∧ RR w A n zss := by
  rcases open_int_rows ht he hq ce cq h with ⟨hcs, _⟩ | ⟨a, len, cap, A, L, C, Z, hcs, _, hl, hm, _, hr⟩
  · simp at hcs
    exact ⟨none, 0, 0, [], hcs, by omega, by omega, RS.nil_ _ _ _⟩
  · simp at hcs
    refine ⟨some a, len, cap, (List.range len).map fun r => (Z r).take (L r), hcs, hl, by unfold maxLen at hm; exact hm, by simp, fun j y hy => ?_⟩
    have hj : j < len := by
      have := (List.getElem?_eq_some_iff.1 hy).1
      simpa using this
    have ey : (Z j).take (L j) = y := by simpa [hj] using hy
    obtain ⟨h1, h2, h3, h4, h5, h6, h7⟩ := hr j (by omega)
    refine ⟨a, _, rfl, h1, A j, L j, C j, rfl, h2, by unfold maxLen at h3; exact h3, ?_, fun i z hz => ?_⟩
    · rw [← ey, List.length_take]; omega
    · rw [← ey, List.getElem?_take] at hz
      split at hz
      · rename_i hi
        have hi' : i < C j := by omega
        cases hA : A j with
        | none => have := h6 hA; omega
        | some a' =>
          have hcell := (h7 a' hA).2 i hi'
          have e1 : (Z j).getD i 0 = z := by simp [List.getD, hz]
          exact ⟨a', _, rfl, hcell, by rw [e1], I64.of_wf (h5 z (List.mem_of_getElem? hz))⟩
      · cases hz
theorem open_RB {t e : TypeId} {v : Value} {x : DataW H × List MemPlace} (ht : P.underlying t = some (.slice e)) (he : P.underlying e = some (.int .u8)) (hc : P.cellsOf e = 1)
    (h : DataW.trod enc P w 0 (fun _ => true) true fuel t [v] = some x) : ∃ A n c zs, v = .slice A n c ∧ n ≤ c ∧ c ≤ 9223372036854775807 ∧ RS EByte w A n zs := by
  rcases open_ints ht he hc h with ⟨hcs, _⟩ | ⟨a, len, cap, zs, hcs, _, hl, hm, hz, _, hcell, hwz⟩
  · simp at hcs
    exact ⟨none, 0, 0, [], hcs, by omega, by omega, RS.nil_ _ _ _⟩
  · simp at hcs hz
    refine ⟨some a, len, cap, zs.take len, hcs, hl, by unfold maxLen at hm; exact hm, ?_, fun j y hy => ?_⟩
    · rw [List.length_take]; omega
    · rw [List.getElem?_take] at hy
      split at hy
      · rename_i hj
        have hj' : j < zs.length := by omega
        have e1 : zs.getD j 0 = y := by simp [List.getD, hy]
        refine ⟨a, _, rfl, hcell j hj', by rw [e1], ?_⟩
        exact bounds_u8 (hwz y (List.mem_of_getElem? hy))
      · cases hy
end
end Go.Proofs.Ytcnjlkabdfcjdaa
