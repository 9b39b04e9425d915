/- The least row: the program's side. No condition beyond those stated. -/
import Derived.Test.YtcnjlkabdfcjdaaZBB
import Derived.Test.YtcnjlkabdfcjdaaZAI
import Derived.Test.YtcnjlkabdfcjdaaZAU
import Derived.Test.YtcnjlkabdfcjdaaZAZ
import Derived.Test.YtcnjlkabdfcjdaaZAM
import Derived.Test.YtcnjlkabdfcjdaaZAF
import Derived.Test.YtcnjlkabdfcjdaaZBA
set_option linter.unusedVariables false
set_option linter.unusedSimpArgs false
namespace Go.Proofs.Ytcnjlkabdfcjdaa
open Go.RowKit

/-- what a pick asks for -/
def okR (L : List (List Int)) (n k : Nat) (f : Nat → Bool) (z : Int) : Bool := !f z.toNat && matP L (setF f z.toNat true) n (k + 1)
theorem find_at {p : Int → Bool} {l : List Int} {i : Nat} (hi : i < l.length) (hb : ∀ y ∈ l.take i, p y = false) (hp : p (nth l i) = true) : l.find? p = some (nth l i) := by
  rw [List.find?_eq_some_iff_append]
  refine ⟨hp, l.take i, l.drop (i + 1), ?_, fun y hy => by rw [hb y hy]; rfl⟩
  rw [← drop_int hi, List.take_append_drop]
theorem take_step {p : Int → Bool} {l : List Int} {i : Nat} (hi : i < l.length) (hb : ∀ y ∈ l.take i, p y = false) (hp : p (nth l i) = false) : ∀ y ∈ l.take (i + 1), p y = false := fun y hy => by
  rw [List.take_succ_eq_append_getElem hi] at hy
  rcases List.mem_append.1 hy with h | h
  · exact hb y h
  · rw [List.mem_singleton.1 h, ← nth_get hi]; exact hp
theorem lrP_step {L : List (List Int)} {n k : Nat} {f : Nat → Bool} {z : Int} (hk : k < n) (h : (row L k).find? (okR L n k f) = some z) : lrP L n (n - k) k f = z :: lrP L n (n - (k + 1)) (k + 1) (setF f z.toNat true) := by
  rw [show n - k = (n - (k + 1)) + 1 by omega, lrP]
  rw [show (fun z : Int => !f z.toNat && matP L (setF f z.toNat true) n (k + 1)) = okR L n k f from rfl, h]
theorem bools_back {n s : Nat} {f : Nat → Bool} (h : f s = false) : bools n (setF (setF f s true) s false) = bools n f := bools_congr fun b _ => by
  by_cases e : b = s
  · rw [e, setF_self, h]
  · rw [setF_ne _ _ e, setF_ne _ _ e]
theorem bools_setF {n s : Nat} {f : Nat → Bool} {x : Bool} : (bools n f).set s (.bool x) = bools n (setF f s x) := bools_set
theorem os_fz {w : World} {B e g n c : Nat} {f : Nat → Bool} (h : OS w B e 1 (some ⟨g, 0, none⟩) n c (bools n f)) {s : Nat} (hs : s < n) : w.frozen? ⟨g, s, none⟩ = false ∧ w.cell? ⟨g, s, none⟩ = some (.bool (f s)) := by
  obtain ⟨g', e, o1, o2⟩ := h.cell (bools_at hs)
  injection e with e
  injection e with e
  subst e
  exact ⟨o2, o1⟩
set_option maxRecDepth 100000 in
set_option maxHeartbeats 4000000 in
theorem leastRow_any (A : Option Addr) (n c : Nat) (L : List (List Int)) (w : World) (ha : RR w A n L) (hL : LOk n L) (hn : n ≤ 1000) (hex : ∃ g, Sdr n L noT 0 g) :
    Calls Try.prog 66 #[.slice A n c] w fun e w' => ∃ RA rc, e = .returned (.slice RA n rc) ∧ OI w' w.heap.size 2 RA n rc (lrP L n n 0 noT) ∧ Below w.heap.size w w' := by
  have hmk := run_make_row' (P := Try.prog) 57 4 (.bool false) 1 Try.underlying57 bool_infoO rfl .i64 .i64 n (by omega) (by omega)
  have hos := OS.made w w.heap.size 4 (.bool false) n (Nat.le_refl _) (by omega)
  rw [bools_false] at hos
  have hb1 := below_alloc w (.cells (madeCells #[.bool false] n) 4)
  have hs1 : (w.alloc (.cells (madeCells #[.bool false] n) 4)).heap.size = w.heap.size + 1 := by simp
  obtain ⟨R, hR⟩ : ∃ R, lrP L n n 0 noT = R := ⟨_, rfl⟩
  rw [hR]
  have HR := Lib.hid (show ([] : List Int) ++ lrP L n (n - 0) 0 noT = R from hR)
  have HM := Lib.hid (fun (U : Option Addr) (uc k : Nat) (f : Nat → Bool) (w' : World) (hb : Below w.heap.size w w') (hu : OS w' w.heap.size 4 1 U n uc (bools n f)) (hk : k ≤ n) => matchable_any A U c uc n w.heap.size k L f w' (ha.keep hb) hu hL hn hk)
  have HPK := Lib.hid (fun (k : Nat) (f : Nat → Bool) (hk : k < n) (g : Nat → Nat) (h : Sdr n L f k g) => (show okR L n k f ((g k : Nat) : Int) = true ∧ ((g k : Nat) : Int) ∈ row L k from ⟨pick_some hL hk h, (h.adj k (Nat.le_refl _) hk).1⟩))
  have HSD := Lib.hid (fun (k : Nat) (f : Nat → Bool) (hk : k ≤ n) (h : matP L f n k = true) => (matP_iff hL hk).1 h)
  have HL := Lib.hid hL
  have HA := Lib.hid ha
  have HEX := Lib.hid hex
  clear hR ha hL hex
  go_enter Try.func66, Try.ntmps66
  go_wp2
  generalize w.alloc (.cells (madeCells #[.bool false] n) 4) = w1 at *
  have h0 : OI w1 (w.heap.size + 1) 2 none 0 0 [] := OI.nil_ _ _ _
  go_loopw [4, 14] (fun r i wr => ∃ (k : Nat) (f : Nat → Bool) (zs : List Int) (RA : Option Addr) (rc : Nat), k ≤ n ∧ i = .int .i64 k ∧ r = .slice RA k rc ∧ OI wr (w.heap.size + 1) 2 RA k rc zs ∧ OS wr w.heap.size 4 1 (some ⟨w.heap.size, 0, none⟩) n n (bools n f) ∧ zs ++ lrP L n (n - k) k f = R ∧ (∃ g, Sdr n L f k g) ∧ Below w.heap.size w wr ∧ w.heap.size + 1 ≤ wr.heap.size) (fun _ i _ => n - (intOf i).toNat)
  case atStart => exact ⟨0, noT, [], none, 0, Nat.zero_le _, rfl, rfl, h0, hos, HR.out, HEX.out, hb1, by omega⟩
  case round =>
    clear HR HEX h0 hos hb1 hmk
    obtain ⟨k, f, zs, RA, rc, hk, rfl, rfl, ho, hos, hT, hex, hb, hsz⟩ := hrel
    by_cases hlt : k < n
    · obtain ⟨ad, RX, rn, xc, rfl, hcx, hrn, hxc, hRX⟩ := HA.out.get hlt
      have hcx := below_cell hb hcx
      have hRl := hRX.len
      have hrb : rn ≤ 9223372036854775807 := Nat.le_trans hrn hxc
      have HRX := Lib.hid hRX
      have HT := Lib.hid hT
      have HX := Lib.hid hex
      have HO := Lib.hid ho
      have HOS := Lib.hid hos
      have HB := Lib.hid hb
      have HZ := Lib.hid (fun z hz => HL.out k z hlt hz)
      clear hT hex ho hos hb hRX hrn hxc
      go_wp2
      clear hcx
      go_loopw [4, 21] (fun r i wr => ∃ (j : Nat), j ≤ rn ∧ i = .int .i64 j ∧ r = .slice RA k rc ∧ OI wr (w.heap.size + 1) 2 RA k rc zs ∧ OS wr w.heap.size 4 1 (some ⟨w.heap.size, 0, none⟩) n n (bools n f) ∧ (∀ y ∈ (row L k).take j, okR L n k f y = false) ∧ Below w.heap.size w wr ∧ w.heap.size + 1 ≤ wr.heap.size) (fun _ i _ => rn - (intOf i).toNat)
      case atStart => exact ⟨0, Nat.zero_le _, rfl, rfl, HO.out, HOS.out, fun y hy => by simp at hy, HB.out, hsz⟩
      case round =>
        clear HO HOS HB hsz
        obtain ⟨j, hj, rfl, rfl, ho, hos, hno, hb, hsz⟩ := hrel
        by_cases hlt2 : j < rn
        · obtain ⟨ax, rfl, hcz, -⟩ := (HRX.out.keep hb).get hlt2
          have hzm : nth (row L k) j ∈ row L k := by rw [nth_get (by omega)]; exact List.getElem_mem _
          obtain ⟨z0, z1⟩ := HZ.out _ hzm
          have HST := Lib.hid (fun h => take_step (p := okR L n k f) (l := row L k) (i := j) (by omega) hno h)
          have HFD := Lib.hid (fun h => find_at (p := okR L n k f) (l := row L k) (i := j) (by omega) hno h)
          generalize nth (row L k) j = z at *
          obtain ⟨s, rfl⟩ := Int.eq_ofNat_of_zero_le z0
          have hs : s < n := by omega
          obtain ⟨g', hg', hcu, hfz⟩ := hos.cell (bools_at hs)
          injection hg' with hg'
          injection hg' with hg'
          subst hg'
          have HO := Lib.hid ho
          have HOS := Lib.hid hos
          have HB := Lib.hid hb
          clear ho hos hb hno z0 z1 hzm
          cases hfs : f s with
          | true =>
            rw [hfs] at hcu
            have HN := Lib.hid (HST.out (by unfold okR; rw [Int.toNat_natCast, hfs]; rfl))
            clear HST HFD
            go_wp2
            go_roundw
            case rel => exact ⟨j + 1, by omega, by go_num, rfl, HO.out, HOS.out, HN.out, HB.out, hsz⟩
            case measure => simp [intOf]; omega
          | false =>
            rw [hfs] at hcu
            have hos2 := HOS.out.set s (.bool true)
            rw [bools_setF] at hos2
            have ho2 := HO.out.setLow (p := ⟨w.heap.size, s, none⟩) (Nat.lt_succ_self _) (.bool true)
            have hb2 := HB.out.setCell (p := ⟨w.heap.size, s, none⟩) (Nat.le_refl _) (.bool true)
            have hsz2 : w.heap.size + 1 ≤ (wr.setCell ⟨w.heap.size, s, none⟩ (.bool true)).heap.size := by simpa [World.setCell] using hsz
            have hcall := HM.out (some ⟨w.heap.size, 0, none⟩) n (k + 1) (setF f s true) (wr.setCell ⟨w.heap.size, s, none⟩ (.bool true)) hb2 hos2 (by omega)
            rw [show ((k + 1 : Nat) : Int) = (k : Int) + 1 by omega] at hcall
            have hk64 : (k : Int) + 1 ≤ 9223372036854775807 := by omega
            have HO2 := Lib.hid ho2
            have HOS2 := Lib.hid hos2
            have HB2 := Lib.hid hb2
            clear HO HOS HB ho2 hos2 hb2
            generalize hW : wr.setCell ⟨w.heap.size, s, none⟩ (.bool true) = W at *
            cases hmt : matP L (setF f s true) n (k + 1) with
            | true =>
              have hfd := HFD.out (by unfold okR; rw [Int.toNat_natCast, hfs, hmt]; rfl)
              have HSX := Lib.hid (HSD.out (k + 1) (setF f s true) (by omega) hmt)
              have HT2 := Lib.hid (show (zs ++ [(s : Int)]) ++ lrP L n (n - (k + 1)) (k + 1) (setF f s true) = R by
                have := HT.out
                rw [lrP_step hlt hfd, Int.toNat_natCast] at this
                rw [← this]
                simp)
              rw [hmt] at hcall
              have hs64 : I64 (s : Int) := by unfold I64; omega
              clear HST HFD hfd HT
              subst hW
              go_wp2_with (first | (go_at_call 91; refine hcall.mono ?_; rintro e w5 ⟨rfl, hb5⟩; have hsz5 := Nat.le_trans hsz2 hb5.size; have HO5 := Lib.hid (HO2.out.below hb5); have HOS5 := Lib.hid (HOS2.out.below hb5); have HB5 := Lib.hid (HB2.out.trans (hb5.mono HB2.out.size)); have hty5 := Lib.hid (HOS5.out.typed (HO5.out.os.more (Nat.le_succ _)) (by decide))) | (at_builtin; refine app_int _ rfl (.tmp 37) (.tmp 39) rfl (w.heap.size + 1) RA k rc _ rfl HO5.out (s : Int) w5.heap.size rfl rfl hs64 (by omega) hsz5 ?_; intro A4 c4 w4 ho4 hg4 hf4; have hos4 := HOS5.out.kept hg4 hty5.out; have hb4 := below_own HB5.out hg4 HB5.out.size (fun q hq => Nat.le_of_succ_le (HO5.out.os.lt hq).1); have hsz4 := Nat.le_trans hsz5 hg4.size))
              go_roundw
              case rel => exact ⟨k + 1, setF f s true, zs ++ [(s : Int)], A4, c4, by omega, by go_num, rfl, ho4, hos4, HT2.out, HSX.out, hb4, hsz4⟩
              case measure => simp [intOf]; omega
            | false =>
              have HN := Lib.hid (HST.out (by unfold okR; rw [Int.toNat_natCast, hfs, hmt]; rfl))
              rw [hmt] at hcall
              clear HST HFD
              subst hW
              go_wp2_with (go_at_call 91; refine hcall.mono ?_; rintro e w5 ⟨rfl, hb5⟩; have hsz5 := Nat.le_trans hsz2 hb5.size; have HO5 := Lib.hid (HO2.out.below hb5); have HOS5 := Lib.hid (HOS2.out.below hb5); have HB5 := Lib.hid (HB2.out.trans (hb5.mono HB2.out.size)); obtain ⟨q5, c5⟩ := os_fz HOS5.out hs)
              have hos6 := HOS5.out.set s (.bool false)
              rw [bools_setF, bools_back hfs] at hos6
              go_roundw
              case rel => exact ⟨j + 1, by omega, by go_num, rfl, HO5.out.setLow (Nat.lt_succ_self _) _, hos6, HN.out, HB5.out.setCell (Nat.le_refl _) _, by simpa [World.setCell] using hsz5⟩
              case measure => simp [intOf]; omega
        · obtain rfl : j = rn := by omega
          rw [List.take_of_length_le (by omega)] at hno
          obtain ⟨g, hg⟩ := HX.out
          obtain ⟨h1, h2⟩ := HPK.out k f hlt g hg
          rw [hno _ h2] at h1
          cases h1
    · obtain rfl : k = n := by omega
      rw [Nat.sub_self, lrP, List.append_nil] at hT
      have HT := Lib.hid hT
      have HO := Lib.hid ho
      have HB := Lib.hid hb
      clear hT ho hb hos hex
      go_wp2
      go_ret
      exact ⟨RA, rc, rfl, HT.out ▸ HO.out.more (Nat.le_succ _), HB.out⟩
end Go.Proofs.Ytcnjlkabdfcjdaa
/- The full rows of a rectangle: the program's side. No condition beyond those stated. -/
namespace Go.Proofs.Ytcnjlkabdfcjdaa
open Go.RowKit

def cntM (l : List Int) : Nat := (l.filter fun z => z == -1).length
theorem cntM_step {l : List Int} {j : Nat} (h : j < l.length) : cntM (l.take (j + 1)) = if nth l j = -1 then cntM (l.take j) + 1 else cntM (l.take j) := by
  unfold cntM
  rw [List.take_succ_eq_append_getElem h, List.filter_append, List.length_append, ← nth_get h]
  by_cases e : nth l j = -1
  · rw [if_pos e, e]; rfl
  · rw [if_neg e]
    have : (nth l j == -1) = false := by simpa using e
    simp [this]
theorem cntM_le (l : List Int) : cntM l ≤ l.length := List.length_filter_le _ _
theorem cntM_none {l : List Int} (h : cntM l = 0) : ∀ j, j < l.length → nth l j ≠ -1 := fun j hj e => by
  have := List.filter_eq_nil_iff.1 (List.length_eq_zero_iff.1 h) (nth l j) (by rw [nth_get hj]; exact List.getElem_mem _)
  rw [e] at this
  exact this rfl
theorem cntM_all {l : List Int} (h : cntM l = l.length) : ∀ j, j < l.length → nth l j = -1 := fun j hj => by
  have := List.length_filter_eq_length_iff.1 h (nth l j) (by rw [nth_get hj]; exact List.getElem_mem _)
  simpa using this
/-- full rows, then empty ones, up to a row -/
structure RcTo (n x q : Nat) (p : List (List Int)) : Prop where
  le : q ≤ x
  full : ∀ i j, i < q → i < n → j < n → atS p i j ≠ -1
  emp : ∀ i j, q ≤ i → i < x → i < n → j < n → atS p i j = -1
theorem RcTo.rect {n q : Nat} {p : List (List Int)} (h : RcTo n n q p) (hp : PSq n p) : Rect n q p := ⟨hp, h.full, fun i j hq hi hj => h.emp i j hq hi hi hj⟩
theorem RcTo.fill {n x : Nat} {p : List (List Int)} (h : RcTo n x x p) (hp : PSq n p) (hx : x < n) (hc : cntM (row p x) = 0) : RcTo n (x + 1) (x + 1) p := by
  refine ⟨Nat.le_refl _, fun i j hi hin hj => ?_, fun i j h1 h2 => by omega⟩
  by_cases e : i = x
  · subst e; exact cntM_none hc j (by rw [hp.row i hx]; exact hj)
  · exact h.full i j (by omega) hin hj
theorem RcTo.none {n x q : Nat} {p : List (List Int)} (h : RcTo n x q p) (hp : PSq n p) (hx : x < n) (hc : cntM (row p x) = n) : RcTo n (x + 1) q p := by
  refine ⟨Nat.le_succ_of_le h.le, h.full, fun i j h1 h2 hin hj => ?_⟩
  by_cases e : i = x
  · subst e; exact cntM_all (by rw [hc, hp.row i hx]) j (by rw [hp.row i hx]; exact hj)
  · exact h.emp i j h1 (by omega) hin hj
set_option maxRecDepth 100000 in
set_option maxHeartbeats 2000000 in
theorem fullRows_any (A : Option Addr) (n c : Nat) (p : List (List Int)) (w : World) (ha : RR w A n p) (hp : PSq n p) (h1 : 1 ≤ n) (hn : n ≤ 10) :
    Calls Try.prog 65 #[.slice A n c] w fun e w' => ∃ (x : Nat) (b : Bool), e = .returned (.tuple #[.int .i64 x, .bool b]) ∧ (b = true → x ≤ n ∧ Rect n x p) ∧ Below w.heap.size w w' := by
  have HP := Lib.hid hp
  have HA := Lib.hid ha
  clear hp ha
  go_enter Try.func65, Try.ntmps65
  go_wp2
  go_loopw [4, 12] (fun f i wr => ∃ (x q : Nat), x ≤ n ∧ i = .int .i64 x ∧ f = .int .i64 q ∧ RcTo n x q p ∧ Below w.heap.size w wr) (fun _ i _ => n - (intOf i).toNat)
  case atStart => exact ⟨0, 0, Nat.zero_le _, rfl, rfl, ⟨Nat.le_refl _, fun i j hi => by omega, fun i j _ hi => by omega⟩, Below.refl _ _⟩
  case round =>
    obtain ⟨x, q, hx, rfl, rfl, hr, hb⟩ := hrel
    have hqx := hr.le
    by_cases hlt : x < n
    · obtain ⟨ad, RX, rn, rc, rfl, hcx, hrn, hrc, hRX⟩ := (HA.out.keep hb).get hlt
      have hRl := hRX.len
      obtain rfl : rn = n := by rw [← hRl, HP.out.row x hlt]
      have HR := Lib.hid hr
      have HB := Lib.hid hb
      have HRX := Lib.hid hRX
      clear hr hb hRX
      go_wp2
      clear hcx
      go_loopw [7, 19] (fun m i wr2 => ∃ (j : Nat), j ≤ rn ∧ i = .int .i64 j ∧ m = .int .i64 (cntM ((row p x).take j)) ∧ Below wr.heap.size wr wr2) (fun _ i _ => rn - (intOf i).toNat)
      case atStart => exact ⟨0, Nat.zero_le _, rfl, rfl, Below.refl _ _⟩
      case round =>
        rename_i wr2
        obtain ⟨j, hj, rfl, rfl, hb2⟩ := hrel
        by_cases hlt2 : j < rn
        · obtain ⟨ax, rfl, hcz, -⟩ := (HRX.out.keep hb2).get hlt2
          have hst := cntM_step (l := row p x) (j := j) (by omega)
          have hle := cntM_le ((row p x).take j)
          rw [List.length_take] at hle
          have HB2 := Lib.hid hb2
          clear hb2
          generalize nth (row p x) j = z at *
          by_cases e : z = -1
          · subst e
            rw [if_pos rfl] at hst
            have HST := Lib.hid hst
            clear hst
            generalize cntM ((row p x).take j) = t at *
            go_wp2
            go_roundw
            case rel => exact ⟨j + 1, by omega, by go_num, by rw [HST.out]; go_num, HB2.out⟩
            case measure => simp [intOf]; omega
          · rw [if_neg e] at hst
            have he : (z == -1) = false := by simpa using e
            have HST := Lib.hid hst
            clear hst
            generalize cntM ((row p x).take j) = t at *
            go_wp2
            go_roundw
            case rel => exact ⟨j + 1, by omega, by go_num, by rw [HST.out], HB2.out⟩
            case measure => simp [intOf]; omega
        · obtain rfl : j = rn := by omega
          rw [List.take_of_length_le (by omega)]
          have hbb := Lib.hid (HB.out.trans (hb2.mono HB.out.size))
          clear hb2
          by_cases hc0 : cntM (row p x) = 0
          · by_cases hqe : q = x
            · subst hqe
              have HF := Lib.hid (HR.out.fill HP.out hlt hc0)
              rw [hc0]
              clear HR hc0
              go_wp2
              go_roundw
              case rel => exact ⟨q + 1, q + 1, by omega, by go_num, by go_num, HF.out, hbb.out⟩
              case measure => simp [intOf]; omega
            · have e1 : ((q : Int) == (x : Int)) = false := by simp; omega
              have e2 : ((0 : Int) != (j : Int)) = true := by simp; omega
              rw [hc0]
              clear hc0
              go_wp2
              go_ret2
              exact ⟨0, false, rfl, fun h => (by cases h), hbb.out⟩
          · by_cases hcn : cntM (row p x) = j
            · have HF := Lib.hid (HR.out.none HP.out hlt hcn)
              rw [hcn]
              have e1 : ((j : Int) == 0) = false := by simp; omega
              clear HR hcn hc0
              go_wp2
              go_roundw
              case rel => exact ⟨x + 1, q, by omega, by go_num, rfl, HF.out, hbb.out⟩
              case measure => simp [intOf]; omega
            · have e1 : ((cntM (row p x) : Int) == 0) = false := by simp; omega
              have e2 : ((cntM (row p x) : Int) != (j : Int)) = true := by simp; omega
              generalize cntM (row p x) = t at *
              go_wp2
              go_ret2
              exact ⟨0, false, rfl, fun h => (by cases h), hbb.out⟩
    · obtain rfl : x = n := by omega
      have HR := Lib.hid hr
      have HB := Lib.hid hb
      clear hr hb
      go_wp2
      go_ret2
      exact ⟨q, true, rfl, fun _ => ⟨hqx, HR.out.rect HP.out⟩, HB.out⟩
end Go.Proofs.Ytcnjlkabdfcjdaa
/- A rectangle is extended: the program's side. No condition beyond those stated. -/
namespace Go.Proofs.Ytcnjlkabdfcjdaa
open Go.RowKit

theorem OB.push {w w' : World} {B : Nat} {A A' : Option Addr} {n c c' : Nat} {vs : List Sl} {zss : List (List Int)} (h : OB w B A n c vs zss) {v : Sl} {z : List Int} (ho : OI w B 2 v.1 v.2.1 v.2.2 z) (hg : w.grownBy w' (blk A)) (hos : OS w' B 30 1 A' (n + 1) c' (vs.map slv ++ [.slice v.1 v.2.1 v.2.2])) : OB w' B A' (n + 1) c' (vs ++ [v]) (zss ++ [z]) := by
  have far : ∀ {A2 : Option Addr} {n2 c2 : Nat} {y : List Int}, OI w B 2 A2 n2 c2 y → OI w' B 2 A2 n2 c2 y := fun k => k.kept hg (OS.typed k.os h.os (by decide))
  obtain ⟨l1, l2⟩ := h.slen
  refine ⟨by simpa [slv] using hos, by simp [h.len], fun j u y hu hy => ?_⟩
  rw [List.getElem?_append] at hu hy
  split at hu
  · rename_i hj
    rw [if_pos (by omega)] at hy
    exact far (h.rows j u y hu hy)
  · rename_i hj
    rw [if_neg (by omega)] at hy
    have e1 : j - vs.length = 0 := by
      have := (List.getElem?_eq_some_iff.1 hu).1
      simp at this; omega
    have e2 : j - zss.length = 0 := by omega
    rw [e1] at hu
    rw [e2] at hy
    simp at hu hy
    subst hu; subst hy
    exact far ho
theorem OB.nil_ (w : World) (B : Nat) : OB w B none 0 0 [] [] := ⟨OS.nil_ w B _ 1, rfl, fun j v z h => by simp at h⟩
section
variable {ops : Array Oper} {rest : List Oper} {o : Oper} {a : Act} {Q : Exit → Act → World → Prop}
theorem app_rowB (w : World) (hgd : o.guard = none) (s x : Operand) (ho : o.op = .call { callee := .builtin .append, args := #[s, x], argTypes := #[24, 24] })
    (B : Nat) (A : Option Addr) (n c : Nat) (vs : List Sl) (zss : List (List Int)) (hs : a.eval s = .slice A n c) (hown : OB w B A n c vs zss) (v : Sl) (z : List Int) (hv : OI w B 2 v.1 v.2.1 v.2.2 z)
    (g : Nat) (hx : a.eval x = .slice (some ⟨g, 0, none⟩) 1 1) (hgx : g = w.heap.size) (hbig : n + 1 ≤ 2199023255552) (hB : B ≤ w.heap.size)
    (h : ∀ A' c' w', OB w' B A' (n + 1) c' (vs ++ [v]) (zss ++ [z]) → w.grownBy w' (blk A) → wpList Try.prog ops Q rest (a.put o.dst (.slice A' (n + 1) c')) w') :
    wpList Try.prog ops Q (o :: rest) a (w.alloc (.cells #[.slice v.1 v.2.1 v.2.2] 30)) :=
  wpList_app1' w hgd s x 24 ho 30 (.slice none 0 0) 24 Try.underlying24 ints_info rfl (by omega) B A n c (vs.map slv) hs hown.os (.slice v.1 v.2.1 v.2.2) g hx hgx rfl hbig hB
    fun A' c' w' h1 h2 _ => h A' c' w' (OB.push hown hv h2 h1) h2
end
theorem OB.fz {w : World} {B g n c : Nat} {vs : List Sl} {zss : List (List Int)} (h : OB w B (some ⟨g, 0, none⟩) n c vs zss) {j : Nat} (hj : j < n) : w.frozen? ⟨g, j, none⟩ = false ∧ ∃ v : Sl, w.cell? ⟨g, j, none⟩ = some (.slice v.1 v.2.1 v.2.2) := by
  obtain ⟨g', v, e, -, h1, h2, -⟩ := h.get hj
  injection e with e
  injection e with e
  subst e
  exact ⟨h2, v, h1⟩
/-- the candidates of the first columns -/
def candLk (x : Nat) (q : List (List Int)) (k : Nat) : List (List Int) := (List.range k).map fun y => candP q x y
theorem candLk_step (x : Nat) (q : List (List Int)) (k : Nat) : candLk x q (k + 1) = candLk x q k ++ [candP q x k] := by simp [candLk, List.range_succ]
/-- what ExtendRectangle hands back -/
def RetER (w : World) (n : Nat) (p : List (List Int)) (e : Ending) (w' : World) : Prop :=
  ∃ (A : Option Addr) (m c k : Nat), e = .returned (.tuple #[.slice A m c, .int .i64 k]) ∧ Below w.heap.size w w' ∧
    ((k = 1 ∧ ¬ PartOk p ∧ A = none ∧ m = 0 ∧ c = 0) ∨ (k = 6 ∧ PartOk p ∧ A = none ∧ m = 0 ∧ c = 0) ∨ (k = 0 ∧ PartOk p ∧ m = n ∧ ∃ a, ExtOk n p a ∧ RR w' A n a))
set_option maxRecDepth 100000 in
set_option maxHeartbeats 4000000 in
theorem extendRectangle_any (A : Option Addr) (n c : Nat) (p : List (List Int)) (w : World) (ha : RR w A n p) (hn : n ≤ c) (hc : c ≤ 9223372036854775807) :
    Calls Try.prog 28 #[.slice A n c] w (RetER w n p) := by
  have hval := validPartial_any A n c p w ha hn hc
  by_cases hv : PartOk p
  · rw [tB_yes hv] at hval
    obtain ⟨p1, p2, hp⟩ := Lib.hid (And.intro hv.1 (And.intro hv.2.1 hv.2.2)) |>.out
    have hl := ha.len
    rw [hl] at p1 p2 hp
    have hcl := psq_cells hp p2
    have HV := Lib.hid hv
    have HP := Lib.hid hp
    have HA := Lib.hid ha
    clear hv hp ha hl
    go_enter Try.func28, Try.ntmps28
    go_wp2_with (go_at_call 46; refine hval.mono ?_; rintro e w2 ⟨rfl, hb2⟩)
    go_wp2_with (fail)
    refine (fullRows_any A n c p w2 (HA.out.keep hb2) HP.out p1 p2).mono ?_
    rintro e w3 ⟨x0, b, rfl, hx0, hb3⟩
    have hb23 := hb2.trans (hb3.mono hb2.size)
    cases b with
    | false =>
      go_wp2
      go_ret2
      exact ⟨none, 0, 0, 6, rfl, hb23, .inr (.inl ⟨rfl, HV.out, rfl, rfl, rfl⟩)⟩
    | true =>
      obtain ⟨hxn, hrect⟩ := hx0 rfl
      clear hb2 hb3 hx0 hval
      have HX := Lib.hid hrect
      have HB := Lib.hid hb23
      clear hrect hb23
      go_wp2_with (fail)
      refine (copyLists_any A n c p w3 (HA.out.keep HB.out) (by omega) hcl).mono ?_
      rintro e w4 ⟨OA, on, oc, rfl, ho, hb4⟩
      obtain ⟨vs, ho⟩ := OB.of_or ho
      obtain rfl : on = n := by rw [← ho.slen.2]; exact HP.out.len
      have hbw := HB.out.trans (hb4.mono HB.out.size)
      have ho := ho.more HB.out.size
      obtain ⟨R, hR⟩ : ∃ R, extP on (on - x0) x0 p = R := ⟨_, rfl⟩
      have hok := extP_ok (on - x0) x0 p (by omega) HX.out
      rw [hR] at hok
      have HOK := Lib.hid hok
      have HR := Lib.hid hR
      have HO := Lib.hid ho
      have HBW := Lib.hid hbw
      clear hok hR ho hbw hb4
      go_wp2
      go_loopw [7] (fun i wr => ∃ (x : Nat) (q : List (List Int)) (vs : List Sl), x ≤ on ∧ i = .int .i64 x ∧ OB wr w.heap.size OA on oc vs q ∧ extP on (on - x) x q = R ∧ Rect on x q ∧ Below w.heap.size w wr) (fun i _ => on - (intOf i).toNat)
      case atStart => exact ⟨x0, p, vs, hxn, rfl, HO.out, HR.out, HX.out, HBW.out⟩
      case round =>
        clear HO HR HX HBW HB HA HP
        obtain ⟨x, q, vs2, hx, rfl, ho, hT, hrc, hb⟩ := hrel
        generalize wr = W0 at *
        by_cases hlt : x < on
        · have HO := Lib.hid ho
          have HB := Lib.hid hb
          have HT := Lib.hid (show extP on (on - (x + 1)) (x + 1) (extR on x q) = R by rw [← hT, show on - x = (on - (x + 1)) + 1 by omega, extP])
          have HRC := Lib.hid hrc
          clear ho hb hT hrc
          go_wp2
          go_loopw [8, 31] (fun l i wr => ∃ (y : Nat) (LA : Option Addr) (lc : Nat) (us : List Sl), y ≤ on ∧ i = .int .i64 y ∧ l = .slice LA y lc ∧ OB wr W0.heap.size LA y lc us (candLk x q y) ∧ Below W0.heap.size W0 wr) (fun _ i _ => on - (intOf i).toNat)
          case atStart => exact ⟨0, none, 0, [], Nat.zero_le _, rfl, rfl, OB.nil_ _ _, Below.refl _ _⟩
          case round =>
            obtain ⟨y, LA, lc, us, hy, rfl, rfl, hl, hb2⟩ := hrel
            by_cases hlt2 : y < on
            · have hcand := candidates_any OA on oc x y q wr ((HO.out.below hb2).reads) (by omega) hlt (fun r hr => by rw [HRC.out.sq.rows r hr]; exact hlt2)
              have HL := Lib.hid hl
              have HB2 := Lib.hid hb2
              have HST := Lib.hid (candLk_step x q y)
              clear hl hb2
              go_wp2_with (first | (go_at_call 54; refine hcand.mono ?_; rintro e w5 ⟨CA, cn, cc, rfl, hoc, hb5⟩; have hsz5 := Nat.le_trans HB2.out.size hb5.size; have HL5 := Lib.hid (HL.out.below hb5); have HC5 := Lib.hid (hoc.more HB2.out.size); have HB5 := Lib.hid (HB2.out.trans (hb5.mono HB2.out.size)); clear hoc hb5) | (at_builtin; refine app_rowB _ rfl (.tmp 34) (.tmp 39) rfl W0.heap.size LA y lc us _ rfl HL5.out (CA, cn, cc) _ HC5.out w5.heap.size rfl rfl (by omega) hsz5 ?_; intro A6 c6 w6 ho6 hg6; have hb6 := below_own HB5.out hg6 HB5.out.size (fun q hq => (HL5.out.os.lt hq).1)))
              go_roundw
              case rel => exact ⟨y + 1, A6, c6, us ++ [(CA, cn, cc)], by omega, by go_num, rfl, HST.out ▸ ho6, hb6⟩
              case measure => simp [intOf]; omega
            · obtain rfl : y = on := by omega
              have hlr := leastRow_any LA y lc (candLk x q y) wr hl.reads (candL_ok HRC.out.sq hlt) (by omega) (HRC.out.sdr hlt)
              obtain ⟨g, v0, rfl, -, c0, f0, -⟩ := (HO.out.below hb2).get hlt
              have HO2 := Lib.hid (HO.out.below hb2)
              have HB2 := Lib.hid (HB.out.trans (hb2.mono HB.out.size))
              clear hl hb2
              go_wp2_with (go_at_call 66; refine hlr.mono ?_; rintro e w7 ⟨RA, rc, rfl, hor, hb7⟩; have HO7 := Lib.hid (HO2.out.below hb7); have HR7 := Lib.hid (hor.more HB2.out.size); have HB7 := Lib.hid (HB2.out.trans (hb7.mono HB2.out.size)); obtain ⟨f7, v7, c7⟩ := HO7.out.fz hlt; clear hor hb7)
              go_roundw
              case rel => exact ⟨x + 1, extR y x q, _, by omega, by go_num, HO7.out.setRow x (v := (RA, y, rc)) HR7.out, HT.out, HRC.out.next hlt, HB7.out.setCell HO7.out.grownO.1 _⟩
              case measure => simp [intOf]; omega
        · obtain rfl : x = on := by omega
          rw [Nat.sub_self, extP] at hT
          have HO := Lib.hid ho
          have HB := Lib.hid hb
          have HT := Lib.hid hT
          clear ho hb hT
          go_wp2
          go_ret2
          exact ⟨OA, x, oc, 0, rfl, HB.out, .inr (.inr ⟨rfl, HV.out, rfl, R, HOK.out, HT.out ▸ HO.out.reads⟩)⟩
  · rw [tB_no hv] at hval
    have HV := Lib.hid hv
    clear hv
    go_enter Try.func28, Try.ntmps28
    go_wp2_with (go_at_call 46; refine hval.mono ?_; rintro e w2 ⟨rfl, hb2⟩)
    go_ret2
    exact ⟨none, 0, 0, 1, rfl, hb2, .inl ⟨rfl, HV.out, rfl, rfl, rfl⟩⟩
end Go.Proofs.Ytcnjlkabdfcjdaa
