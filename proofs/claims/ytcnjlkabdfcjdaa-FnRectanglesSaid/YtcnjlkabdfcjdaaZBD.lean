/- Whether rows are a partial square: the reference's side. No condition beyond those stated. -/
import Derived.Test.YtcnjlkabdfcjdaaZAZ
import Derived.Test.YtcnjlkabdfcjdaaZAD
import Derived.Test.YtcnjlkabdfcjdaaZAC
import Derived.Test.YtcnjlkabdfcjdaaZBA
set_option linter.unusedVariables false
set_option linter.unusedSimpArgs false
namespace Go.Proofs.Ytcnjlkabdfcjdaa
open Go.RowKit

/-- a further cell of the row or of the column has the symbol -/
def badB (p : List (List Int)) (x y k : Nat) : Bool := decide (0 ≤ atS p x y) && ((((k : Int) != (y : Int)) && (atS p x k == atS p x y)) || (((k : Int) != (x : Int)) && (atS p k y == atS p x y)))
def cellS (n : Nat) (p : List (List Int)) (x y : Nat) : Prop := inB (atS p x y) (-1) ((n : Int) - 1) = true ∧ ∀ k, k < n → badB p x y k = false
theorem badB_true {p : List (List Int)} {x y k : Nat} : badB p x y k = true ↔ 0 ≤ atS p x y ∧ ((k ≠ y ∧ atS p x k = atS p x y) ∨ (k ≠ x ∧ atS p k y = atS p x y)) := by
  simp [badB]
  omega
theorem psq_spec {n : Nat} {p : List (List Int)} (hl : p.length = n) : PSq n p ↔ (∀ x, x < n → (row p x).length = n) ∧ ∀ x y, x < n → y < n → cellS n p x y := by
  constructor
  · intro h
    refine ⟨h.row, fun x y hx hy => ⟨?_, fun k hk => ?_⟩⟩
    · have := h.bd x y hx hy
      exact inB_mk (by omega)
    · rw [← Bool.not_eq_true, badB_true]
      rintro ⟨h0, ⟨h1, h2⟩ | ⟨h1, h2⟩⟩
      · rcases Nat.lt_or_ge k y with e | e
        · exact h.rd x k y hx e hy (by omega) h2
        · exact h.rd x y k hx (by omega) hk (by omega) h2.symm
      · rcases Nat.lt_or_ge k x with e | e
        · exact h.cd k x y e hx hy (by omega) h2
        · exact h.cd x k y (by omega) hk hy (by omega) h2.symm
  · rintro ⟨h1, h2⟩
    have hb : ∀ x y, x < n → y < n → -1 ≤ atS p x y ∧ atS p x y < (n : Int) := fun x y hx hy => by have := inB_true (h2 x y hx hy).1; omega
    refine ⟨hl, h1, hb, fun x y z hx hyz hz hne e => ?_, fun x z y hxz hz hy hne e => ?_⟩
    · have := hb x y hx (by omega)
      have h3 := (h2 x y hx (by omega)).2 z hz
      rw [← Bool.not_eq_true, badB_true] at h3
      exact h3 ⟨by omega, .inl ⟨by omega, e.symm⟩⟩
    · have := hb x y (by omega) hy
      have h3 := (h2 x y (by omega) hy).2 z hz
      rw [← Bool.not_eq_true, badB_true] at h3
      exact h3 ⟨by omega, .inr ⟨by omega, e.symm⟩⟩
set_option maxRecDepth 100000 in
set_option maxHeartbeats 8000000 in
theorem l09Ok_any (A : Option Addr) (n c : Nat) (p : List (List Int)) (w : World) (ha : RR w A n p) (hn : n ≤ c) (hc : c ≤ 9223372036854775807) :
    Calls Try.prog 67 #[.slice A n c] w (RetB w (tB (PartOk p))) := by
  have hla := ha.len
  by_cases h0 : 1 ≤ n ∧ n ≤ 10
  · have hiff := psq_spec (p := p) hla
    have HNO := Lib.hid (fun h : ¬ PSq n p => (show tB (PartOk p) = false from tB_no (fun hp => h (by have := hp.2.2; rwa [hla] at this))))
    have HYES := Lib.hid (fun h : PSq n p => (show tB (PartOk p) = true from tB_yes (by refine ⟨?_, ?_, ?_⟩ <;> rw [hla]; exact h0.1; exact h0.2; exact h)))
    have HIFF := Lib.hid hiff
    have HA := Lib.hid ha
    have hlo : decide ((n : Int) < 1) = false := by simp; omega
    have hhi : decide ((n : Int) > 10) = false := by simp; omega
    obtain ⟨n1, n10⟩ := h0
    clear hiff ha hla hn hc
    go_enter Try.func67, Try.ntmps67
    go_wp2
    go_loopw [4] (fun i wr => ∃ (x : Nat), x ≤ n ∧ i = .int .i64 x ∧ (∀ j, j < x → (row p j).length = n) ∧ Below w.heap.size w wr) (fun i _ => n - (intOf i).toNat)
    case atStart => exact ⟨0, Nat.zero_le _, rfl, fun j hj => by omega, Below.refl _ _⟩
    case round =>
      obtain ⟨x, hx, rfl, hr, hb⟩ := hrel
      by_cases hlt : x < n
      · obtain ⟨ad, RX, rn, rc, rfl, hcx, hrn, hrc, hRX⟩ := (HA.out.keep hb).get hlt
        have hRl := hRX.len
        have HB := Lib.hid hb
        have HR := Lib.hid hr
        clear hb hr hRX
        by_cases e : rn = n
        · subst e
          go_wp2
          go_roundw
          case rel => exact ⟨x + 1, by omega, by go_num, fun j hj => by
            by_cases e : j = x
            · rw [e]; exact hRl
            · exact HR.out j (by omega), HB.out⟩
          case measure => simp [intOf]; omega
        · have e1 : ((rn : Int) != (n : Int)) = true := by simp; omega
          have HF := Lib.hid (HNO.out (fun h => e (by rw [← hRl]; exact h.row x hlt)))
          go_wp2
          go_ret
          exact ⟨(by rw [HF.out]; rfl), HB.out⟩
      · obtain rfl : x = n := by omega
        have HR := Lib.hid hr
        have HB := Lib.hid hb
        clear hr hb
        go_wp2
        go_loopw [5] (fun i wr => ∃ (q : Nat), q ≤ x ∧ i = .int .i64 q ∧ (∀ i j, i < q → j < x → cellS x p i j) ∧ Below w.heap.size w wr) (fun i _ => x - (intOf i).toNat)
        case atStart => exact ⟨0, Nat.zero_le _, rfl, fun i j hi => by omega, HB.out⟩
        case round =>
          clear HB
          obtain ⟨q, hq, rfl, hce, hb⟩ := hrel
          by_cases hlt2 : q < x
          · have HC := Lib.hid hce
            have HB := Lib.hid hb
            clear hce hb
            go_wp2
            go_loopw [6] (fun i wr => ∃ (y : Nat), y ≤ x ∧ i = .int .i64 y ∧ (∀ j, j < y → cellS x p q j) ∧ Below w.heap.size w wr) (fun i _ => x - (intOf i).toNat)
            case atStart => exact ⟨0, Nat.zero_le _, rfl, fun j hj => by omega, HB.out⟩
            case round =>
              clear HB
              obtain ⟨y, hy, rfl, hcy, hb⟩ := hrel
              by_cases hlt3 : y < x
              · obtain ⟨ad, RX, rn, rc, rfl, hcx, hrn, hrc, hRX⟩ := (HA.out.keep hb).get hlt2
                obtain rfl : rn = x := by rw [← hRX.len]; exact HR.out q hlt2
                obtain ⟨ax, rfl, hcz, hzi⟩ := hRX.get hlt3
                have HB := Lib.hid hb
                have HCY := Lib.hid hcy
                have HZ := Lib.hid (show nth (row p q) y = atS p q y from rfl)
                clear hb hcy hRX
                generalize nth (row p q) y = z at *
                cases hin : inB z (-1) ((rn : Int) - 1) with
                | false =>
                  have HF := Lib.hid (HNO.out (fun h => by
                    have := ((HIFF.out.1 h).2 q y hlt2 hlt3).1
                    rw [← HZ.out, hin] at this
                    cases this))
                  have hcall := l00In_any z (-1) ((rn : Int) - 1)
                  rw [hin] at hcall
                  go_wp2_with (go_at_call 40; (with_reducible refine (hcall _).mono ?_); rintro e w' ⟨rfl, rfl⟩)
                  go_ret
                  exact ⟨(by rw [HF.out]; rfl), HB.out⟩
                | true =>
                  have hcall := l00In_any z (-1) ((rn : Int) - 1)
                  rw [hin] at hcall
                  go_wp2_with (go_at_call 40; (with_reducible refine (hcall _).mono ?_); rintro e w' ⟨rfl, rfl⟩)
                  clear hcx hcz hcall
                  go_loopw [7] (fun i wr => ∃ (k : Nat), k ≤ rn ∧ i = .int .i64 k ∧ (∀ j, j < k → badB p q y j = false) ∧ Below w.heap.size w wr) (fun i _ => rn - (intOf i).toNat)
                  case atStart => exact ⟨0, Nat.zero_le _, rfl, fun j hj => by omega, HB.out⟩
                  case round =>
                    clear HB
                    obtain ⟨k, hk, rfl, hbk, hb⟩ := hrel
                    by_cases hlt4 : k < rn
                    · have HBK := Lib.hid hbk
                      have HB := Lib.hid hb
                      have hr2 := HA.out.keep hb
                      obtain ⟨ad1, RX, xn, xc, had, hcx, -, -, hRX⟩ := hr2.get hlt2
                      injection had with had
                      subst had
                      obtain rfl : xn = rn := by rw [← hRX.len]; exact HR.out q hlt2
                      obtain ⟨ax1, rfl, hcz, -⟩ := hRX.get hlt3
                      obtain ⟨ax2, hax, hcu, -⟩ := hRX.get hlt4
                      injection hax with hax
                      subst hax
                      obtain ⟨ad2, RK, kn, kc, had, hck, -, -, hRK⟩ := hr2.get hlt4
                      injection had with had
                      subst had
                      obtain rfl : kn = xn := by rw [← hRK.len]; exact HR.out k hlt4
                      obtain ⟨ak, rfl, hct, -⟩ := hRK.get hlt3
                      have HST := Lib.hid (fun (h : badB p q y k = false) => (show ∀ j, j < k + 1 → badB p q y j = false from fun j hj => by
                        by_cases e : j = k
                        · rw [e]; exact h
                        · exact HBK.out j (by omega)))
                      have HBD := Lib.hid (fun (h : badB p q y k = true) => HNO.out (fun hp => by
                        have := ((HIFF.out.1 hp).2 q y hlt2 hlt3).2 k hlt4
                        rw [h] at this
                        cases this))
                      have HBE := Lib.hid (show badB p q y k = (decide (0 ≤ z) && ((((k : Int) != (y : Int)) && (nth (row p q) k == z)) || (((k : Int) != (q : Int)) && (nth (row p k) y == z)))) by rw [HZ.out]; rfl)
                      rw [show nth (row p q) y = z from HZ.out.symm] at hcz
                      generalize nth (row p q) k = u at *
                      generalize nth (row p k) y = t at *
                      clear hbk hb hr2 hRX hRK
                      cases e0 : decide (0 ≤ z) with
                      | false =>
                        have HN := Lib.hid (HST.out (by rw [HBE.out, e0]; rfl))
                        clear HST HBD HBE
                        go_wp2
                        go_quiet (fail)
                        go_wp2
                        go_roundw
                        case rel => exact ⟨k + 1, by omega, by go_num, HN.out, HB.out.trans ((below_drewn _ _).mono HB.out.size)⟩
                        case measure => simp [intOf]; omega
                      | true =>
                        cases e1 : ((k : Int) != (y : Int)) with
                        | false =>
                          cases e3 : ((k : Int) != (q : Int)) with
                          | false =>
                            have HN := Lib.hid (HST.out (by rw [HBE.out, e0, e1, e3]; rfl))
                            clear HST HBD HBE
                            go_wp2
                            go_quiet (fail)
                            go_wp2
                            go_roundw
                            case rel => exact ⟨k + 1, by omega, by go_num, HN.out, HB.out.trans ((below_drewn _ _).mono HB.out.size)⟩
                            case measure => simp [intOf]; omega
                          | true =>
                            cases e4 : (t == z) with
                            | false =>
                              have HN := Lib.hid (HST.out (by rw [HBE.out, e0, e1, e3, e4]; rfl))
                              clear HST HBD HBE
                              go_wp2
                              go_quiet (fail)
                              go_wp2
                              go_roundw
                              case rel => exact ⟨k + 1, by omega, by go_num, HN.out, HB.out.trans ((below_drewn _ _).mono HB.out.size)⟩
                              case measure => simp [intOf]; omega
                            | true =>
                              have HF := Lib.hid (HBD.out (by rw [HBE.out, e0, e1, e3, e4]; rfl))
                              clear HST HBD HBE
                              go_wp2
                              go_quiet (fail)
                              go_wp2
                              go_ret
                              exact ⟨(by rw [HF.out]; rfl), HB.out.trans ((below_drewn _ _).mono HB.out.size)⟩
                        | true =>
                          cases e2 : (u == z) with
                          | true =>
                            have HF := Lib.hid (HBD.out (by rw [HBE.out, e0, e1, e2]; rfl))
                            clear HST HBD HBE
                            go_wp2
                            go_quiet (fail)
                            go_wp2
                            go_ret
                            exact ⟨(by rw [HF.out]; rfl), HB.out.trans ((below_drewn _ _).mono HB.out.size)⟩
                          | false =>
                            cases e3 : ((k : Int) != (q : Int)) with
                            | false =>
                              have HN := Lib.hid (HST.out (by rw [HBE.out, e0, e1, e2, e3]; rfl))
                              clear HST HBD HBE
                              go_wp2
                              go_quiet (fail)
                              go_wp2
                              go_roundw
                              case rel => exact ⟨k + 1, by omega, by go_num, HN.out, HB.out.trans ((below_drewn _ _).mono HB.out.size)⟩
                              case measure => simp [intOf]; omega
                            | true =>
                              cases e4 : (t == z) with
                              | false =>
                                have HN := Lib.hid (HST.out (by rw [HBE.out, e0, e1, e2, e3, e4]; rfl))
                                clear HST HBD HBE
                                go_wp2
                                go_quiet (fail)
                                go_wp2
                                go_roundw
                                case rel => exact ⟨k + 1, by omega, by go_num, HN.out, HB.out.trans ((below_drewn _ _).mono HB.out.size)⟩
                                case measure => simp [intOf]; omega
                              | true =>
                                have HF := Lib.hid (HBD.out (by rw [HBE.out, e0, e1, e2, e3, e4]; rfl))
                                clear HST HBD HBE
                                go_wp2
                                go_quiet (fail)
                                go_wp2
                                go_ret
                                exact ⟨(by rw [HF.out]; rfl), HB.out.trans ((below_drewn _ _).mono HB.out.size)⟩
                    · obtain rfl : k = rn := by omega
                      have HCN := Lib.hid (show cellS k p q y from ⟨by rw [← HZ.out]; exact hin, hbk⟩)
                      have HB := Lib.hid hb
                      clear hbk hb
                      go_wp2
                      go_roundw
                      case rel => exact ⟨y + 1, by omega, by go_num, fun j hj => by
                        by_cases e : j = y
                        · rw [e]; exact HCN.out
                        · exact HCY.out j (by omega), HB.out⟩
                      case measure => simp [intOf]; omega
              · obtain rfl : y = x := by omega
                have HCY := Lib.hid hcy
                have HB := Lib.hid hb
                clear hcy hb
                go_wp2
                go_roundw
                case rel => exact ⟨q + 1, by omega, by go_num, fun i j hi hj => by
                  by_cases e : i = q
                  · rw [e]; exact HCY.out j hj
                  · exact HC.out i j (by omega) hj, HB.out⟩
                case measure => simp [intOf]; omega
          · obtain rfl : q = x := by omega
            have HF := Lib.hid (HYES.out (HIFF.out.2 ⟨HR.out, fun i j hi hj => hce i j hi hj⟩))
            have HB := Lib.hid hb
            clear hce hb
            go_wp2
            go_ret
            exact ⟨(by rw [HF.out]; rfl), HB.out⟩
  · have HF := Lib.hid (show tB (PartOk p) = false from tB_no (fun hp => h0 (by rw [← hla]; exact ⟨hp.1, hp.2.1⟩)))
    have hb := Below.refl w.heap.size w
    clear ha hla
    by_cases hlo : n < 1
    · obtain rfl : n = 0 := by omega
      go_enter Try.func67, Try.ntmps67
      go_wp2
      go_ret
      exact ⟨(by rw [HF.out]; rfl), hb⟩
    · have e1 : decide ((n : Int) < 1) = false := by simp; omega
      have e2 : decide ((n : Int) > 10) = true := by simp; omega
      go_enter Try.func67, Try.ntmps67
      go_wp2
      go_ret
      exact ⟨(by rw [HF.out]; rfl), hb⟩
set_option maxHeartbeats 1000000 in
theorem specValidPartial_any (A : Option Addr) (n c : Nat) (p : List (List Int)) (w : World) (ha : RR w A n p) (hn : n ≤ c) (hc : c ≤ 9223372036854775807) :
    Calls Try.prog 29 #[.slice A n c] w (RetB w (tB (PartOk p))) := by
  have hcall := l09Ok_any A n c p w ha hn hc
  go_enter Try.func29, Try.ntmps29
  go_wp2_with (go_at_call 67; refine hcall.mono ?_; rintro e w2 ⟨rfl, hb2⟩)
  go_ret
  exact ⟨rfl, hb2⟩
end Go.Proofs.Ytcnjlkabdfcjdaa
/- Whether a budget is one, both sides. No condition beyond those stated. -/
namespace Go.Proofs.Ytcnjlkabdfcjdaa
open Go.RowKit

theorem isBudget_any (b : Int) (w : World) : Calls Try.prog 35 #[.int .i64 b] w (fun e w' => e = .returned (.bool (inB b 1 20000)) ∧ w = w') := by
  go_enter Try.func35, Try.ntmps35
  go_wp2_with (go_at_call 36; refine (within_any _ _ _ _).mono ?_; rintro e w' ⟨rfl, rfl⟩)
  go_ret
  exact ⟨rfl, rfl⟩
theorem l09Budget_any (b : Int) (w : World) : Calls Try.prog 39 #[.int .i64 b] w (fun e w' => e = .returned (.bool (inB b 1 20000)) ∧ w = w') := by
  go_enter Try.func39, Try.ntmps39
  go_wp2_with (go_at_call 40; refine (l00In_any _ _ _ _).mono ?_; rintro e w' ⟨rfl, rfl⟩)
  go_ret
  exact ⟨rfl, rfl⟩
end Go.Proofs.Ytcnjlkabdfcjdaa
/- Completions: CompletePartial and CountCompletions, the program's side. No condition beyond those stated. -/
namespace Go.Proofs.Ytcnjlkabdfcjdaa
open Go.RowKit

theorem searchC_any (w0 : World) (g D M n : Nat) (SA : Option Addr) (sc : Nat) (CA : Option Addr) (m mc lim : Nat) (vs : List Sl) (cs : List Nat) (hn : n ≤ 10) (hlim : lim ≤ 1000) : ∀ rem, SubC w0 g D M n SA sc CA m mc lim vs cs rem
  | [] => fun w p FA fn fk s k hk _ hp _ hsp hcn hsl h => by
    obtain rfl : k = m := by simpa using hk
    rw [clS]
    exact searchC_leaf w0 w g D M n SA sc CA k mc lim vs cs p FA fn fk s h hn (psq_cells hp hn) (by omega)
  | c :: rem => searchC_step w0 g D M n SA sc CA m mc lim vs cs c rem hn hlim (searchC_any w0 g D M n SA sc CA m mc lim vs cs hn hlim rem)
/-- what completions hands back -/
def RetCs (w : World) (s : CSt) (lim : Nat) (e : Ending) (w' : World) : Prop :=
  ∃ (g : Nat) (x2 x3 : Value) (FA : Option Addr) (fn fk : Nat), e = .returned (.pointer (some ⟨g, 0, none⟩)) ∧ Blk w' g 68 #[.int .i64 (s.left : Nat), .bool s.spent, x2, x3, .int .i64 lim, .int .i64 (s.count : Nat), .slice FA fn fk] ∧
    OR w' w.heap.size 30 2 FA fn fk s.first ∧ Below w.heap.size w w'
set_option maxRecDepth 100000 in
set_option maxHeartbeats 2000000 in
theorem completions_any (A : Option Addr) (n c : Nat) (p : List (List Int)) (lim b : Nat) (w : World) (ha : RR w A n p) (hp : PartOk p) (h1 : 1 ≤ lim) (h2 : lim ≤ 1000) (hb : b ≤ 20000) :
    Calls Try.prog 47 #[.slice A n c, .int .i64 lim, .int .i64 b] w (RetCs w (clR p lim b) lim) := by
  have hl := ha.len
  obtain ⟨p1, p2, p3⟩ := hp
  rw [hl] at p1 p2 p3
  have hcl := psq_cells p3 p2
  have hR : clR p lim b = clS n lim (empP n p) p ⟨b, false, 0, []⟩ := by rw [clR, hl]
  rw [hR]
  have HP := Lib.hid p3
  have HA := Lib.hid ha
  clear hR hl p3 ha
  go_enter Try.func47, Try.ntmps47
  go_wp2_with (fail)
  refine (copyLists_any A n c p w HA.out (by omega) hcl).mono ?_
  rintro e w1 ⟨SA, sn, sc, rfl, ho, hb1⟩
  obtain rfl : sn = n := by rw [← ho.len]; exact HP.out.len
  obtain ⟨vs, hov⟩ := ho.bound
  go_wp2_with (fail)
  refine (emptyCells_any A sn c p w1 (HA.out.keep hb1) (by omega) HP.out.row).mono ?_
  rintro e w2 ⟨CA, m, mc, rfl, hoc, hb2⟩
  have hov := hov.mid (Mid.of_below hb2 (Nat.le_refl _) 0 0) (.inl (Nat.zero_le _))
  have hb3 := below_alloc w2 (.cells #[.int .i64 b, .bool false, .slice SA sn sc, .slice CA m mc, .int .i64 lim, .int .i64 0, .slice none 0 0] 68)
  have X := Blk.new w2 68 #[.int .i64 b, .bool false, .slice SA sn sc, .slice CA m mc, .int .i64 lim, .int .i64 0, .slice none 0 0]
  have hsz : (w2.alloc (.cells #[.int .i64 b, .bool false, .slice SA sn sc, .slice CA m mc, .int .i64 lim, .int .i64 0, .slice none 0 0] 68)).heap.size = w2.heap.size + 1 := by simp
  have hcg : ∀ b, blk CA = some b → b < w2.heap.size := fun b hb => (hoc.os.lt hb).2
  have hml : m = (empP sn p).length := by rw [← hoc.len, natsI_len]
  have h : ICl w (w2.alloc (.cells #[.int .i64 b, .bool false, .slice SA sn sc, .slice CA m mc, .int .i64 lim, .int .i64 0, .slice none 0 0] 68)) w2.heap.size w1.heap.size (w2.heap.size + 1) sn SA sc CA m mc lim vs (empP sn p) p none 0 0 ⟨b, false, 0, []⟩ :=
    ⟨X, (hb1.trans (hb2.mono hb1.size)).trans (hb3.mono (Nat.le_trans hb1.size hb2.size)), hov.mid (Mid.of_below hb3 (Nat.le_refl _) 0 0) (.inl (Nat.zero_le _)), hoc.below hb3, OR.nil_ _ _ (by decide), hcg, ⟨hb2.size, hb1.size, Nat.lt_succ_self _⟩, by rw [hsz]; exact Nat.le_refl _⟩
  have hs := searchC_any w w2.heap.size w1.heap.size (w2.heap.size + 1) sn SA sc CA m mc lim vs (empP sn p) p2 h2 (empP sn p) _ p none 0 0 ⟨b, false, 0, []⟩ 0 (by omega) (by simp) HP.out rfl rfl (by dsimp only; omega) hb h
  have hw1 := Nat.le_trans hb1.size hb2.size
  clear X hov hoc hb3 hcg hml h hcl ho hb1 hb2 hsz
  go_wp2_with (fail)
  refine hs.mono ?_
  rintro e w3 ⟨rfl, ⟨FA, fn, fk, h3⟩, -⟩
  generalize clS sn lim (empP sn p) p ⟨b, false, 0, []⟩ = R at *
  have H3 := Lib.hid h3
  clear hs h3
  go_wp2
  go_ret
  exact ⟨w2.heap.size, _, _, FA, fn, fk, rfl, H3.out.x, H3.out.f.more (by omega), H3.out.b⟩
/-- what CompletePartial answers: its code, its rows -/
noncomputable def clK (p : List (List Int)) (b : Int) : Int := if tB (PartOk p) then (if inB b 1 20000 then (if (clR p 1 b.toNat).spent then 5 else if (clR p 1 b.toNat).count = 0 then 3 else 0) else 2) else 1
noncomputable def clF (p : List (List Int)) (b : Int) : List (List Int) := if clK p b = 0 then (clR p 1 b.toNat).first else []
def RetCP (w : World) (p : List (List Int)) (b : Int) (e : Ending) (w' : World) : Prop :=
  ∃ A n c, e = .returned (.tuple #[.slice A n c, .int .i64 (clK p b)]) ∧ OR w' w.heap.size 30 2 A n c (clF p b) ∧ Below w.heap.size w w'
theorem RetCP.no {w w' : World} {p : List (List Int)} {b c : Int} (hb : Below w.heap.size w w') (hk : clK p b = c) (hc : c ≠ 0) : RetCP w p b (.returned (.tuple #[.slice none 0 0, .int .i64 c])) w' :=
  ⟨none, 0, 0, by rw [hk], by rw [clF, hk, if_neg hc]; exact OR.nil_ _ _ (by decide), hb⟩
set_option maxRecDepth 100000 in
set_option maxHeartbeats 4000000 in
theorem completePartial_any (A : Option Addr) (n c : Nat) (p : List (List Int)) (b : Int) (w : World) (ha : RR w A n p) (hn : n ≤ c) (hc : c ≤ 9223372036854775807) :
    Calls Try.prog 16 #[.slice A n c, .int .i64 b] w (RetCP w p b) := by
  have hval := validPartial_any A n c p w ha hn hc
  cases hv : tB (PartOk p) with
  | false =>
    rw [hv] at hval
    have HK := Lib.hid (show clK p b = 1 by rw [clK, hv]; rfl)
    go_enter Try.func16, Try.ntmps16
    go_wp2_with (go_at_call 46; refine hval.mono ?_; rintro e w2 ⟨rfl, hb2⟩)
    go_ret2
    exact RetCP.no hb2 HK.out (by decide)
  | true =>
    rw [hv] at hval
    cases hi : inB b 1 20000 with
    | false =>
      have HK := Lib.hid (show clK p b = 2 by rw [clK, hv, hi]; rfl)
      go_enter Try.func16, Try.ntmps16
      go_wp2_with (first | (go_at_call 46; refine hval.mono ?_; rintro e w2 ⟨rfl, hb2⟩) | (go_at_call 35; refine (isBudget_any _ _).mono ?_; rintro e w3 ⟨rfl, rfl⟩; rw [hi]))
      go_ret2
      exact RetCP.no hb2 HK.out (by decide)
    | true =>
      have hp := tB_true.1 hv
      have hbb := inB_true hi
      obtain ⟨b', rfl⟩ : ∃ l' : Nat, b = (l' : Int) := ⟨b.toNat, by omega⟩
      have hcs := fun w2 (h : RR w2 A n p) => completions_any A n c p 1 b' w2 h hp (by omega) (by omega) (by omega)
      have HK := Lib.hid (show clK p (b' : Int) = if (clR p 1 b').spent then 5 else if (clR p 1 b').count = 0 then 3 else 0 by rw [clK, hv, hi]; rfl)
      have HF := Lib.hid (show clK p (b' : Int) = 0 → clF p (b' : Int) = (clR p 1 b').first from fun h => by rw [clF, if_pos h]; rfl)
      have HPL := Lib.hid hp
      clear hbb hp hv
      generalize clR p 1 b' = R at *
      obtain ⟨rl, rs, rc, rf⟩ := R
      simp only [] at HK HF
      go_enter Try.func16, Try.ntmps16
      go_wp2_with (first | (go_at_call 46; refine hval.mono ?_; rintro e w2 ⟨rfl, hb2⟩) | (go_at_call 35; refine (isBudget_any _ _).mono ?_; rintro e w3 ⟨rfl, rfl⟩; rw [hi]))
      refine (hcs w2 (ha.keep hb2)).mono ?_
      rintro e w3 ⟨g, y2, y3, FA, fn, fk, rfl, X, ho, hb3⟩
      have hb4 := hb2.trans (hb3.mono hb2.size)
      have ho := ho.more hb2.size
      have x1 : w3.cell? ⟨g, 1, none⟩ = some (.bool rs) := X.cell 1
      have x5 : w3.cell? ⟨g, 5, none⟩ = some (.int .i64 (rc : Int)) := X.cell 5
      have x6 : w3.cell? ⟨g, 6, none⟩ = some (.slice FA fn fk) := X.cell 6
      clear X hcs hval hb2 hb3
      cases rs with
      | true =>
        have HK2 := Lib.hid (show clK p (b' : Int) = 5 from HK.out)
        go_wp2
        go_ret2
        exact RetCP.no hb4 HK2.out (by decide)
      | false =>
        by_cases h0 : rc = 0
        · have HK2 := Lib.hid (show clK p (b' : Int) = 3 by rw [HK.out, h0]; rfl)
          have h0b : ((rc : Int) == 0) = true := by simp [h0]
          clear h0
          go_wp2
          go_ret2
          exact RetCP.no hb4 HK2.out (by decide)
        · have HK2 := Lib.hid (show clK p (b' : Int) = 0 by rw [HK.out, if_neg (by decide), if_neg h0])
          have h0b : ((rc : Int) == 0) = false := by simp; omega
          clear h0
          go_wp2
          go_ret2
          exact ⟨FA, fn, fk, by rw [HK2.out]; rfl, by rw [HF.out HK2.out]; exact ho, hb4⟩
end Go.Proofs.Ytcnjlkabdfcjdaa
