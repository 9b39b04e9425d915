/- Partial squares: whether rows are one, the program's side. No condition beyond those stated. -/
import Derived.Test.YtcnjlkabdfcjdaaZAW
import Derived.Test.YtcnjlkabdfcjdaaZAI
import Derived.Test.YtcnjlkabdfcjdaaZAK
set_option linter.unusedVariables false
set_option linter.unusedSimpArgs false
namespace Go.Proofs.Ytcnjlkabdfcjdaa
open Go.RowKit

theorem RS.upto {α : Type} {E : World → Value → α → Prop} {w : World} {A : Option Addr} {n : Nat} {xs : List α} (h : RS E w A n xs) {k : Nat} (hk : k ≤ n) : RS E w A k (xs.take k) := by
  refine ⟨by rw [List.length_take, h.len]; omega, fun j z hz => ?_⟩
  rw [List.getElem?_take] at hz
  split at hz
  · exact h.at_ j z hz
  · cases hz
theorem nth_takeC {zs : List Int} {k j : Nat} (h : j < k) : nth (zs.take k) j = nth zs j := by
  unfold nth
  simp only [List.getD_eq_getElem?_getD, List.getElem?_take, if_pos h]
theorem row_takeC {zs : List (List Int)} {k j : Nat} (h : j < k) : row (zs.take k) j = row zs j := by
  unfold row
  simp only [List.getD_eq_getElem?_getD, List.getElem?_take, if_pos h]
/-- a cell is empty, or has a symbol that neither the row nor the column had before -/
def cellOk (n : Nat) (p : List (List Int)) (x y : Nat) : Prop :=
  -1 ≤ atS p x y ∧ atS p x y < (n : Int) ∧ (atS p x y ≠ -1 → memB ((row p x).take y) (atS p x y) = false ∧ (p.take x).any (colB y (atS p x y)) = false)
theorem psq_iff {n : Nat} {p : List (List Int)} (hl : p.length = n) : PSq n p ↔ (∀ x, x < n → (row p x).length = n) ∧ ∀ x y, x < n → y < n → cellOk n p x y := by
  constructor
  · intro h
    refine ⟨h.row, fun x y hx hy => ⟨(h.bd x y hx hy).1, (h.bd x y hx hy).2, fun hne => ⟨?_, ?_⟩⟩⟩
    · rw [memB_false]
      intro hm
      obtain ⟨j, hj, e⟩ := mem_nth hm
      rw [List.length_take, h.row x hx] at hj
      rw [nth_takeC (by omega)] at e
      exact h.rd x j y hx (by omega) hy (by unfold atS at hne ⊢; rw [e]; exact hne) e
    · rw [List.any_eq_false]
      intro r hr hc
      obtain ⟨j, hj, rfl⟩ := List.mem_iff_getElem.1 hr
      rw [List.length_take, hl] at hj
      rw [← row_get (by rw [List.length_take, hl]; omega), row_takeC (by omega)] at hc
      have e : atS p j y = atS p x y := by show nth (row p j) y = _; simpa [colB] using hc
      exact h.cd j x y (by omega) hx hy (by rw [e]; exact hne) e
  · rintro ⟨h1, h2⟩
    refine ⟨hl, h1, fun x y hx hy => ⟨(h2 x y hx hy).1, (h2 x y hx hy).2.1⟩, fun x y z hx hyz hz hne e => ?_, fun x z y hxz hz hy hne e => ?_⟩
    · have h3 := ((h2 x z hx hz).2.2 (by rw [← e]; exact hne)).1
      rw [memB_false] at h3
      refine h3 ?_
      rw [← e]
      unfold atS
      rw [← nth_takeC hyz, nth_get (by rw [List.length_take, h1 x hx]; omega)]
      exact List.getElem_mem _
    · have h3 := ((h2 z y hz hy).2.2 (by rw [← e]; exact hne)).2
      rw [List.any_eq_false] at h3
      refine h3 (row p x) ?_ (by rw [← e]; simp [colB, atS])
      rw [← row_takeC hxz, row_get (by rw [List.length_take, hl]; omega)]
      exact List.getElem_mem _
theorem take_mem_len {p : List (List Int)} {n x : Nat} (hl : p.length = n) (h : ∀ i, i < x → (row p i).length = n) (hx : x ≤ n) {y : Nat} (hy : y < n) : ∀ r ∈ p.take x, y < r.length := fun r hr => by
  obtain ⟨j, hj, rfl⟩ := List.mem_iff_getElem.1 hr
  rw [List.length_take, hl] at hj
  rw [← row_get (by rw [List.length_take, hl]; omega), row_takeC (by omega), h j (by omega)]
  exact hy
set_option maxRecDepth 100000 in
set_option maxHeartbeats 4000000 in
theorem validPartial_any (A : Option Addr) (n c : Nat) (p : List (List Int)) (w : World) (ha : RR w A n p) (hn : n ≤ c) (hc : c ≤ 9223372036854775807) :
    Calls Try.prog 46 #[.slice A n c] w (RetB w (tB (PartOk p))) := by
  have hla := ha.len
  by_cases h0 : inB (n : Int) 1 10 = true
  · obtain ⟨i1, i2⟩ := inB_true h0
    have hn1 : 1 ≤ n ∧ n ≤ 10 := by omega
    have hiff := psq_iff (p := p) hla
    have HT := Lib.hid (show (∀ x, x < n → (row p x).length = n) → (∀ x y, x < n → y < n → cellOk n p x y) → tB (PartOk p) = true from fun h1 h2 => tB_yes ⟨by omega, by omega, by rw [hla]; exact hiff.2 ⟨h1, h2⟩⟩)
    have HF1 := Lib.hid (show ∀ x, x < n → (row p x).length ≠ n → tB (PartOk p) = false from fun x hx hne => tB_no fun h => hne (by have := h.2.2; rw [hla] at this; exact this.row x hx))
    have HF2 := Lib.hid (show ∀ x y, x < n → y < n → ¬ cellOk n p x y → tB (PartOk p) = false from fun x y hx hy hne => tB_no fun h => hne (by have := h.2.2; rw [hla] at this; exact (hiff.1 this).2 x y hx hy))
    clear hiff i1 i2
    have HLA := Lib.hid hla
    clear hla
    go_enter Try.func46, Try.ntmps46
    go_wp2_with (first | (go_at_call 48; refine (sizeR_any _ _ _ _ (by omega)).mono ?_; rintro e w' ⟨rfl, rfl⟩) | (go_at_call 36; refine (within_any _ _ _ _).mono ?_; rintro e w' ⟨rfl, rfl⟩; rw [h0]))
    go_loopw [4, 5, 6, 7, 15] (fun _ _ _ _ i wr => ∃ x : Nat, x ≤ n ∧ i = .int .i64 x ∧ (∀ j, j < x → (row p j).length = n) ∧ (∀ j y, j < x → y < n → cellOk n p j y) ∧ Below w.heap.size w wr) (fun _ _ _ _ i _ => n - (intOf i).toNat)
    case atStart => exact ⟨0, Nat.zero_le _, rfl, fun _ h => absurd h (by omega), fun _ _ h => absurd h (by omega), Below.refl _ _⟩
    case round =>
      obtain ⟨x, hx, rfl, hr1, hr2, hb⟩ := hrel
      by_cases hlt : x < n
      · obtain ⟨ad, RX, rn, rc, rfl, hcx0, hrn, hrc, hRX⟩ := ha.get hlt
        have hcx := below_cell hb hcx0
        have hrl := hRX.len
        by_cases hne : rn = n
        · subst hne
          have hrow : ∀ j, j < x + 1 → (row p j).length = rn := fun j hj => by
            rcases Nat.lt_succ_iff_lt_or_eq.1 hj with h | h
            · exact hr1 j h
            · rw [h]; exact hrl
          have hcol := fun y (hy : y < rn) => take_mem_len HLA.out hr1 hx hy
          have HR2 := Lib.hid hr2
          have HROW := Lib.hid hrow
          have HCOL := Lib.hid hcol
          clear hr1 hr2 hrow hcol hrl
          go_wp2_with (go_at_call 78; refine (sizeI_any _ _ _ _ (by omega)).mono ?_; rintro e w' ⟨rfl, rfl⟩)
          go_loopw [6, 7, 26] (fun _ _ i wr => ∃ y : Nat, y ≤ rn ∧ i = .int .i64 y ∧ (∀ j, j < y → cellOk rn p x j) ∧ Below w.heap.size w wr) (fun _ _ i _ => rn - (intOf i).toNat)
          case atStart => exact ⟨0, Nat.zero_le _, rfl, fun _ h => absurd h (by omega), hb⟩
          case round =>
            clear hb hcx
            obtain ⟨y, hy, rfl, hto, hb⟩ := hrel
            have hcx := below_cell hb (show w.cell? (ad.add x) = some (.slice RX rn rc) by assumption)
            by_cases hyl : y < rn
            · obtain ⟨ay, rfl, hcy, hiy⟩ := (hRX.keep hb).get hyl
              have hct := containsI_any (some ay) y rc ((row p x).take y) (nth (row p x) y) wr ((hRX.keep hb).upto (by omega)) (by omega)
              have hic := inColumn_any (some ad) x c (p.take x) y (nth (row p x) y) wr ((ha.keep hb).upto hx) (by omega) (HCOL.out y hyl)
              have hcd : cellOk rn p x y = (-1 ≤ nth (row p x) y ∧ nth (row p x) y < (rn : Int) ∧ (nth (row p x) y ≠ -1 → memB ((row p x).take y) (nth (row p x) y) = false ∧ (p.take x).any (colB y (nth (row p x) y)) = false)) := rfl
              have hF := HF2.out x y hlt hyl
              have hT := fun h : cellOk rn p x y => (show ∀ j, j < y + 1 → cellOk rn p x j from fun j hj => by
                rcases Nat.lt_succ_iff_lt_or_eq.1 hj with h' | h'
                · exact hto j h'
                · rw [h']; exact h)
              rw [hcd] at hF hT
              clear hcd hto
              have hsub : IntKind.i64.wrap ((rn : Int) - 1) = (rn : Int) - 1 := by rw [IntKind.wrap_i64]; omega
              have hyc : y ≤ rc := by omega
              have hxc : x ≤ c := by omega
              generalize (p.take x).any (colB y (nth (row p x) y)) = b2 at *
              generalize memB ((row p x).take y) (nth (row p x) y) = b1 at *
              generalize nth (row p x) y = s at *
              have HT2 := Lib.hid hT
              have HFF := Lib.hid hF
              clear hT hF
              cases hin : inB s (-1) ((rn : Int) - 1) with
              | false =>
                have HF := Lib.hid (HFF.out fun h => by rw [inB_mk ⟨h.1, by omega⟩] at hin; cases hin)
                clear hct hic
                go_wp2_with (go_at_call 36; refine (within_any _ _ _ _).mono ?_; rintro e w' ⟨rfl, rfl⟩; rw [hin])
                go_ret
                exact ⟨by rw [HF.out]; rfl, hb⟩
              | true =>
                have hs := inB_true hin
                by_cases hs1 : s = -1
                · subst hs1
                  have H := Lib.hid (HT2.out ⟨by omega, by omega, fun h => absurd rfl h⟩)
                  clear hct hic hs
                  go_wp2_with (go_at_call 36; refine (within_any _ _ _ _).mono ?_; rintro e w' ⟨rfl, rfl⟩; rw [hin])
                  go_roundw
                  case rel => exact ⟨y + 1, by omega, by go_num, H.out, hb⟩
                  case measure => simp [intOf]; omega
                · have hsb : (s != -1) = true := by simp [hs1]
                  cases b1 with
                  | true =>
                    have HF := Lib.hid (HFF.out fun h => by have := (h.2.2 hs1).1; cases this)
                    clear hic hs hs1
                    go_wp2_with (first | (go_at_call 36; refine (within_any _ _ _ _).mono ?_; rintro e w' ⟨rfl, rfl⟩; rw [hin]) | (go_at_call 53; refine hct.mono ?_; rintro e w' ⟨rfl, rfl⟩))
                    go_ret
                    exact ⟨by rw [HF.out]; rfl, hb⟩
                  | false =>
                    cases b2 with
                    | true =>
                      have HF := Lib.hid (HFF.out fun h => by have := (h.2.2 hs1).2; cases this)
                      clear hs hs1
                      go_wp2_with (first | (go_at_call 36; refine (within_any _ _ _ _).mono ?_; rintro e w' ⟨rfl, rfl⟩; rw [hin]) | (go_at_call 53; refine hct.mono ?_; rintro e w' ⟨rfl, rfl⟩) | (go_at_call 79; refine hic.mono ?_; rintro e w2 ⟨rfl, hb2⟩))
                      go_ret
                      exact ⟨by rw [HF.out]; rfl, hb.trans (hb2.mono hb.size)⟩
                    | false =>
                      have H := Lib.hid (HT2.out ⟨hs.1, by omega, fun _ => ⟨rfl, rfl⟩⟩)
                      clear hs hs1
                      go_wp2_with (first | (go_at_call 36; refine (within_any _ _ _ _).mono ?_; rintro e w' ⟨rfl, rfl⟩; rw [hin]) | (go_at_call 53; refine hct.mono ?_; rintro e w' ⟨rfl, rfl⟩) | (go_at_call 79; refine hic.mono ?_; rintro e w2 ⟨rfl, hb2⟩))
                      go_roundw
                      case rel => exact ⟨y + 1, by omega, by go_num, H.out, hb.trans (hb2.mono hb.size)⟩
                      case measure => simp [intOf]; omega
            · obtain rfl : y = rn := by omega
              have H1 := Lib.hid hto
              clear hto
              go_wp2
              go_roundw
              case rel => exact ⟨x + 1, by omega, by go_num, HROW.out, fun j y hj hy => (by
                rcases Nat.lt_succ_iff_lt_or_eq.1 hj with h | h
                · exact HR2.out j y h hy
                · rw [h]; exact H1.out y hy), hb⟩
              case measure => simp [intOf]; omega
        · have HF := Lib.hid (HF1.out x hlt (by rw [hrl]; exact hne))
          have hne2 : ((rn : Int) != (n : Int)) = true := by simp; omega
          clear hr1 hr2 hne
          go_wp2_with (go_at_call 78; refine (sizeI_any _ _ _ _ (by omega)).mono ?_; rintro e w' ⟨rfl, rfl⟩)
          go_ret
          exact ⟨by rw [HF.out]; rfl, hb⟩
      · obtain rfl : x = n := by omega
        have H := Lib.hid (HT.out hr1 hr2)
        clear hr1 hr2
        go_wp2
        go_ret
        exact ⟨by rw [H.out]; rfl, hb⟩
  · have HF := Lib.hid (show tB (PartOk p) = false from tB_no fun h => h0 (inB_mk (by have := h.1; have := h.2.1; omega)))
    rw [Bool.not_eq_true] at h0
    go_enter Try.func46, Try.ntmps46
    go_wp2_with (first | (go_at_call 48; refine (sizeR_any _ _ _ _ (by omega)).mono ?_; rintro e w' ⟨rfl, rfl⟩) | (go_at_call 36; refine (within_any _ _ _ _).mono ?_; rintro e w' ⟨rfl, rfl⟩; rw [h0]))
    go_ret
    exact ⟨by rw [HF.out]; rfl, Below.refl _ _⟩
end Go.Proofs.Ytcnjlkabdfcjdaa
/- The search for completions: its state in memory. No condition beyond those stated. -/
namespace Go.Proofs.Ytcnjlkabdfcjdaa
open Go.RowKit

/-! how far a search goes -/
theorem clL_le {lim L : Nat} {p : List (List Int)} {x y : Nat} {sub : List (List Int) → CSt → CSt} (hs : ∀ q s, s.count < lim → s.left ≤ L → (sub q s).count ≤ lim ∧ (sub q s).left ≤ L) : ∀ (r : List Int) (s : CSt), s.count ≤ lim → s.left ≤ L → (clL sub lim p x y r s).count ≤ lim ∧ (clL sub lim p x y r s).left ≤ L
  | [], s, h1, h2 => ⟨h1, h2⟩
  | z :: r, s, h1, h2 => by
    rw [clL]
    split
    · exact ⟨h1, h2⟩
    · rename_i h
      split
      · exact ⟨h1, h2⟩
      · have hlt : s.count < lim := by
          rcases Nat.lt_or_ge s.count lim with h3 | h3
          · exact h3
          · exact absurd (.inl (by omega)) h
        obtain ⟨e1, e2⟩ := hs (putS p x y z) { s with left := s.left - 1 } hlt (by simp only []; omega)
        exact clL_le hs r _ e1 e2
theorem clS_le {n lim L : Nat} : ∀ (cs : List Nat) (p : List (List Int)) (s : CSt), s.count < lim → s.left ≤ L → (clS n lim cs p s).count ≤ lim ∧ (clS n lim cs p s).left ≤ L
  | [], p, s, h1, h2 => by rw [clS]; exact ⟨by simp only []; omega, h2⟩
  | c :: r, p, s, h1, h2 => by
    rw [clS]
    exact clL_le (fun q s h1 h2 => clS_le r q s h1 h2) _ s (by omega) h2
/-- a place written and emptied again -/
theorem putS_back {p : List (List Int)} {x y : Nat} {z : Int} (hx : x < p.length) (hy : y < (row p x).length) (h : atS p x y = -1) : putS (putS p x y z) x y (-1) = p := by
  have e : row (putS p x y z) x = (row p x).set y z := by rw [row_putS hx, if_pos rfl]
  rw [putS, e]
  unfold putS
  rw [List.set_set, List.set_set]
  have e2 : (row p x).set y (-1) = row p x := by
    rw [← h]
    unfold atS
    rw [nth_get hy, List.set_getElem_self]
  rw [e2, row_get hx, List.set_getElem_self]
/-- the search in memory: the square's rows in blocks below D, the struct in block g, what is found from M on -/
structure ICl (w0 w : World) (g D M n : Nat) (SA : Option Addr) (sc : Nat) (CA : Option Addr) (m mc lim : Nat) (vs : List Sl) (cs : List Nat) (p : List (List Int)) (FA : Option Addr) (fn fk : Nat) (s : CSt) : Prop where
  x : Blk w g 68 #[.int .i64 (s.left : Nat), .bool s.spent, .slice SA n sc, .slice CA m mc, .int .i64 lim, .int .i64 (s.count : Nat), .slice FA fn fk]
  b : Below w0.heap.size w0 w
  q : ORdv w w0.heap.size D 30 2 SA n sc vs p
  c : OI w D 2 CA m mc (natsI cs)
  f : OR w M 30 2 FA fn fk s.first
  cg : ∀ b, blk CA = some b → b < g
  o : D ≤ g ∧ w0.heap.size ≤ D ∧ g < M
  M3 : M ≤ w.heap.size
section
variable {w0 w w' : World} {g D M n : Nat} {SA : Option Addr} {sc : Nat} {CA : Option Addr} {m mc lim : Nat} {vs : List Sl} {cs : List Nat} {p : List (List Int)} {FA FA' : Option Addr} {fn fk fn' fk' : Nat} {s : CSt}
theorem ICl.cells (h : ICl w0 w g D M n SA sc CA m mc lim vs cs p FA fn fk s) :
    (w.cell? ⟨g, 0, none⟩ = some (.int .i64 (s.left : Nat)) ∧ w.cell? ⟨g, 1, none⟩ = some (.bool s.spent) ∧ w.cell? ⟨g, 2, none⟩ = some (.slice SA n sc) ∧ w.cell? ⟨g, 3, none⟩ = some (.slice CA m mc)) ∧
    w.cell? ⟨g, 4, none⟩ = some (.int .i64 lim) ∧ w.cell? ⟨g, 5, none⟩ = some (.int .i64 (s.count : Nat)) ∧ w.cell? ⟨g, 6, none⟩ = some (.slice FA fn fk) :=
  ⟨⟨h.x.cell 0, h.x.cell 1, h.x.cell 2, h.x.cell 3⟩, h.x.cell 4, h.x.cell 5, h.x.cell 6⟩
theorem ICl.below (h : ICl w0 w g D M n SA sc CA m mc lim vs cs p FA fn fk s) (hb : Below w.heap.size w w') : ICl w0 w' g D M n SA sc CA m mc lim vs cs p FA fn fk s :=
  ⟨h.x.after hb, h.b.trans (hb.mono h.b.size), h.q.mid (Mid.of_below hb (Nat.le_refl _) 0 0) (.inl (Nat.zero_le _)), h.c.below hb, h.f.below hb, h.cg, h.o, Nat.le_trans h.M3 hb.size⟩
/-- a cell of the struct is stored -/
theorem ICl.put (h : ICl w0 w g D M n SA sc CA m mc lim vs cs p FA fn fk s) (i : Nat) (u : Value) :
    (∀ v, Blk w g 68 v → Blk (w.setCell ⟨g, i, none⟩ u) g 68 (v.setIfInBounds i u)) ∧ Below w0.heap.size w0 (w.setCell ⟨g, i, none⟩ u) ∧ M ≤ (w.setCell ⟨g, i, none⟩ u).heap.size ∧
    ORdv (w.setCell ⟨g, i, none⟩ u) w0.heap.size D 30 2 SA n sc vs p ∧ OI (w.setCell ⟨g, i, none⟩ u) D 2 CA m mc (natsI cs) ∧ (∀ {A n c zss}, OR w M 30 2 A n c zss → OR (w.setCell ⟨g, i, none⟩ u) M 30 2 A n c zss) := by
  have ho := h.o
  have hm : Mid w (w.setCell ⟨g, i, none⟩ u) g (g + 1) := Mid.set (p := ⟨g, i, none⟩) (Nat.le_refl _) (Nat.lt_succ_self _) u
  refine ⟨fun v hv => hv.set_ i u, h.b.setCell (by show w0.heap.size ≤ g; omega) _, by simp [World.setCell]; exact h.M3, h.q.mid hm (.inr ho.1), h.c.mid hm (fun b hb => .inl (h.cg b hb)), fun k => k.setLow (p := ⟨g, i, none⟩) ho.2.2 u⟩
theorem ICl.left_ (h : ICl w0 w g D M n SA sc CA m mc lim vs cs p FA fn fk s) (u : Nat) : ICl w0 (w.setCell ⟨g, 0, none⟩ (.int .i64 (u : Int))) g D M n SA sc CA m mc lim vs cs p FA fn fk { s with left := u } := by
  obtain ⟨h1, h2, h3, h4, h5, h6⟩ := h.put 0 (.int .i64 (u : Int))
  exact ⟨h1 _ h.x, h2, h4, h5, h6 h.f, h.cg, h.o, h3⟩
theorem ICl.spent_ (h : ICl w0 w g D M n SA sc CA m mc lim vs cs p FA fn fk s) (u : Bool) : ICl w0 (w.setCell ⟨g, 1, none⟩ (.bool u)) g D M n SA sc CA m mc lim vs cs p FA fn fk { s with spent := u } := by
  obtain ⟨h1, h2, h3, h4, h5, h6⟩ := h.put 1 (.bool u)
  exact ⟨h1 _ h.x, h2, h4, h5, h6 h.f, h.cg, h.o, h3⟩
theorem ICl.count_ (h : ICl w0 w g D M n SA sc CA m mc lim vs cs p FA fn fk s) (u : Nat) : ICl w0 (w.setCell ⟨g, 5, none⟩ (.int .i64 (u : Int))) g D M n SA sc CA m mc lim vs cs p FA fn fk { s with count := u } := by
  obtain ⟨h1, h2, h3, h4, h5, h6⟩ := h.put 5 (.int .i64 (u : Int))
  exact ⟨h1 _ h.x, h2, h4, h5, h6 h.f, h.cg, h.o, h3⟩
theorem ICl.first_ (h : ICl w0 w g D M n SA sc CA m mc lim vs cs p FA fn fk s) {z : List (List Int)} (hz : OR w M 30 2 FA' fn' fk' z) : ICl w0 (w.setCell ⟨g, 6, none⟩ (.slice FA' fn' fk')) g D M n SA sc CA m mc lim vs cs p FA' fn' fk' { s with first := z } := by
  obtain ⟨h1, h2, h3, h4, h5, h6⟩ := h.put 6 (.slice FA' fn' fk')
  exact ⟨h1 _ h.x, h2, h4, h5, h6 hz, h.cg, h.o, h3⟩
theorem ICl.midg (h : ICl w0 w g D M n SA sc CA m mc lim vs cs p FA fn fk s) (i : Nat) (u : Value) : Mid w (w.setCell ⟨g, i, none⟩ u) w0.heap.size M :=
  Mid.set (p := ⟨g, i, none⟩) (by have := h.o; show w0.heap.size ≤ g; omega) (by have := h.o; show g < M; omega) u
/-- a place of the square -/
theorem ICl.cell (h : ICl w0 w g D M n SA sc CA m mc lim vs cs p FA fn fk s) {x y : Nat} (hx : x < n) (hy : y < (row p x).length) :
    ∃ gs r rm rk, At2 w w0.heap.size 30 2 SA n sc vs p x y gs r rm rk ∧ ∀ u, I64 u → ICl w0 (w.setCell ⟨r, y, none⟩ (.int .i64 u)) g D M n SA sc CA m mc lim vs cs (putS p x y u) FA fn fk s ∧ Mid w (w.setCell ⟨r, y, none⟩ (.int .i64 u)) w0.heap.size M := by
  have ho := h.o
  obtain ⟨gs, r, rm, rk, hat⟩ := h.q.orv.at2 hx hy
  refine ⟨gs, r, rm, rk, hat, fun u hu => ?_⟩
  have hrD : r < D := by
    obtain ⟨g', v, ha, hv, co, fo, hr⟩ := h.q.orv.get hx
    have e := hat.ha
    rw [ha] at e
    injection e with e
    injection e with e
    subst e
    have e2 := hat.co
    rw [co] at e2
    injection e2 with e2
    injection e2 with e2
    exact h.q.ltr x v r hv (by rw [e2]; rfl)
  have hbr := hat.br
  refine ⟨⟨h.x.far (p := ⟨r, y, none⟩) (by show g ≠ r; omega) _, h.b.setCell (by show w0.heap.size ≤ r; exact hbr) _, ⟨hat.set u hu, h.q.lt, h.q.ltr⟩, h.c.setLow (p := ⟨r, y, none⟩) hrD _, h.f.setLow (p := ⟨r, y, none⟩) (by show r < M; omega) _, h.cg, h.o, by simp [World.setCell]; exact h.M3⟩, Mid.set (p := ⟨r, y, none⟩) hbr (by show r < M; omega) _⟩
end
def RetCl (w0 w : World) (g D M n : Nat) (SA : Option Addr) (sc : Nat) (CA : Option Addr) (m mc lim : Nat) (vs : List Sl) (cs : List Nat) (p : List (List Int)) (s : CSt) (e : Ending) (w' : World) : Prop :=
  e = .returned (.tuple #[]) ∧ (∃ FA fn fk, ICl w0 w' g D M n SA sc CA m mc lim vs cs p FA fn fk s) ∧ Mid w w' w0.heap.size M
set_option maxRecDepth 100000 in
set_option maxHeartbeats 4000000 in
theorem searchC_leaf (w0 w : World) (g D M n : Nat) (SA : Option Addr) (sc : Nat) (CA : Option Addr) (m mc lim : Nat) (vs : List Sl) (cs : List Nat) (p : List (List Int)) (FA : Option Addr) (fn fk : Nat) (s : CSt)
    (h : ICl w0 w g D M n SA sc CA m mc lim vs cs p FA fn fk s) (hn : n ≤ 10) (hcl : cells p ≤ 1099511627776) (hcn : s.count ≤ 100000) :
    Calls Try.prog 81 #[.pointer (some ⟨g, 0, none⟩), .int .i64 m] w (RetCl w0 w g D M n SA sc CA m mc lim vs cs p { s with count := s.count + 1, first := if s.count = 0 then p else s.first }) := by
  obtain ⟨sl, sp, ct, fi⟩ := s
  have H0 := h.cells
  simp only [] at H0 hcn ⊢
  obtain ⟨⟨x0, x1, x2, x3⟩, x4, x5, x6⟩ := H0
  have HH := Lib.hid h
  have hrr := Lib.hid (OR.reads ⟨_, h.q.orv⟩)
  have z5 := h.x.frozen 5
  clear h
  by_cases h0 : ct = 0
  · subst h0
    replace x5 : w.cell? ⟨g, 5, none⟩ = some (.int .i64 0) := x5
    go_enter Try.func81, Try.ntmps81
    go_wp2_with (go_at_call 55; refine (copyLists_any SA n sc p w hrr.out (by omega) hcl).mono ?_; rintro e w2 ⟨A2, n2, c2, rfl, ho2, hb2⟩; have H2 := Lib.hid (HH.out.below hb2); have z6 := H2.out.x.frozen 6; have y6 := below_cell hb2 x6; have H3 := Lib.hid (H2.out.first_ (ho2.more HH.out.M3)); have y5 : (w2.setCell ⟨g, 6, none⟩ (.slice A2 n2 c2)).cell? ⟨g, 5, none⟩ = some (.int .i64 0) := H3.out.x.cell 5; have z5 := H3.out.x.frozen 5; have K3 := Lib.hid ((Mid.of_below hb2 (Nat.le_refl _) w0.heap.size M).trans (H2.out.midg 6 (.slice A2 n2 c2))))
    generalize w2.setCell ⟨g, 6, none⟩ (.slice A2 n2 c2) = W3 at *
    have H4 := Lib.hid (H3.out.count_ 1)
    have K4 := Lib.hid (K3.out.trans (H3.out.midg 5 (.int .i64 1)))
    refine bodyPost_ret (results_none rfl _ _ _) rfl ?_
    exact ⟨rfl, ⟨A2, n2, c2, H4.out⟩, K4.out⟩
  · have hc0 : ((ct : Int) == 0) = false := by simp; omega
    have H1 := HH.out.count_ (ct + 1)
    rw [if_neg h0]
    have hm := HH.out.midg 5 (.int .i64 ((ct + 1 : Nat) : Int))
    rw [show ((ct + 1 : Nat) : Int) = (ct : Int) + 1 by omega] at H1 hm
    have H1 := Lib.hid H1
    have HM := Lib.hid hm
    clear h0 hm
    go_enter Try.func81, Try.ntmps81
    go_wp2
    refine bodyPost_ret (results_none rfl _ _ _) rfl ?_
    exact ⟨rfl, ⟨FA, fn, fk, H1.out⟩, HM.out⟩
end Go.Proofs.Ytcnjlkabdfcjdaa
