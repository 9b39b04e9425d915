/- A list finds a symbol of its own: the program's side. No condition beyond those stated. -/
import Derived.Test.YtcnjlkabdfcjdaaZAU
import Derived.Test.YtcnjlkabdfcjdaaZBA
set_option linter.unusedVariables false
set_option linter.unusedSimpArgs false
namespace Go.Proofs.Ytcnjlkabdfcjdaa
open Go.RowKit

/-- who owns: numbers that fit -/
def Ob (n : Nat) (o : Nat → Int) : Prop := ∀ s, s < n → -1 ≤ o s ∧ o s < (n : Int)
theorem Ob.put {n : Nat} {o : Nat → Int} (h : Ob n o) {k : Nat} (hk : k < n) (s : Nat) : Ob n (setF o s (k : Int)) := fun t ht => by
  by_cases e : t = s
  · subst e; rw [setF_self]; omega
  · rw [setF_ne _ _ e]; exact h t ht
theorem augL_bd {n : Nat} {used : Nat → Bool} {sub : Nat → ASt → Bool × ASt} (hsub : ∀ j st, j < n → Ob n st.owner → Ob n (sub j st).2.owner) {k : Nat} (hk : k < n) : ∀ (l : List Int), (∀ z ∈ l, 0 ≤ z ∧ z < (n : Int)) → ∀ st, Ob n st.owner → Ob n (augL sub used k l st).2.owner
  | [], _, st, h => h
  | z :: r, hl, st, h => by
    have hz := hl z List.mem_cons_self
    have hr := fun y hy => hl y (List.mem_cons_of_mem _ hy)
    rw [augL]
    split
    · exact augL_bd hsub hk r hr st h
    · split
      · exact h.put hk _
      · have ho := h z.toNat (by omega)
        have hs := hsub (st.owner z.toNat).toNat ⟨st.owner, setF st.tried z.toNat true⟩ (by omega) h
        split
        · exact hs.put hk _
        · exact augL_bd hsub hk r hr _ hs
theorem augP_bd {n : Nat} {L : List (List Int)} {used : Nat → Bool} (hL : LOk n L) : ∀ (f k : Nat) (st : ASt), k < n → Ob n st.owner → Ob n (augP L used f k st).2.owner
  | 0, k, st, _, h => h
  | f + 1, k, st, hk, h => by
    rw [augP]
    exact augL_bd (fun j st hj h => augP_bd hL f j st hj h) hk _ (fun z hz => hL k z hk hz) st h
theorem setF_mono {T : Nat → Bool} {s t : Nat} (h : T t = true) : setF T s true t = true := by
  by_cases e : t = s
  · rw [e, setF_self]
  · rw [setF_ne _ _ e]; exact h
theorem augL_mono {used : Nat → Bool} {sub : Nat → ASt → Bool × ASt} (hsub : ∀ j st s, st.tried s = true → (sub j st).2.tried s = true) (k s : Nat) : ∀ (l : List Int) (st : ASt), st.tried s = true → (augL sub used k l st).2.tried s = true
  | [], st, h => h
  | z :: r, st, h => by
    rw [augL]
    split
    · exact augL_mono hsub k s r st h
    · split
      · exact setF_mono h
      · have hs := hsub (st.owner z.toNat).toNat ⟨st.owner, setF st.tried z.toNat true⟩ s (setF_mono h)
        split
        · exact hs
        · exact augL_mono hsub k s r _ hs
theorem augP_mono {L : List (List Int)} {used : Nat → Bool} : ∀ (f k : Nat) (st : ASt) (s : Nat), st.tried s = true → (augP L used f k st).2.tried s = true
  | 0, k, st, s, h => h
  | f + 1, k, st, s, h => by
    rw [augP]
    exact augL_mono (fun j st s h => augP_mono f j st s h) k s _ st h
/-- owners in memory -/
def owns (n : Nat) (o : Nat → Int) : List Value := (List.range n).map fun (s : Nat) => .int .i64 (o s)
theorem owns_at {n : Nat} {o : Nat → Int} {s : Nat} (h : s < n) : (owns n o)[s]? = some (.int .i64 (o s)) := by simp [owns, h]
theorem owns_len (n : Nat) (o : Nat → Int) : (owns n o).length = n := by simp [owns]
theorem owns_set {n : Nat} {o : Nat → Int} {s : Nat} {x : Int} : (owns n o).set s (.int .i64 x) = owns n (setF o s x) := by
  apply List.ext_getElem?
  intro c
  rw [List.getElem?_set]
  by_cases hc : c < n
  · by_cases e : s = c
    · subst e
      rw [if_pos rfl, if_pos (by rw [owns_len]; exact hc), owns_at hc, setF_self]
    · rw [if_neg e, owns_at hc, owns_at hc, setF_ne _ _ (fun e' => e e'.symm)]
  · rw [List.getElem?_eq_none (l := owns n (setF o s x)) (by rw [owns_len]; omega), List.getElem?_eq_none (l := owns n o) (by rw [owns_len]; omega)]
    split
    · rw [if_neg (by rw [owns_len]; omega)]
    · rfl
/-- lists, what is used, who owns, what has been tried -/
structure AgM (w0 w : World) (B : Nat) (U O T : Option Addr) (uc oc tc n : Nat) (used : Nat → Bool) (st : ASt) : Prop where
  b : Below w0.heap.size w0 w
  u : OS w0 B 4 1 U n uc (bools n used)
  o : OS w w0.heap.size 3 1 O n oc (owns n st.owner)
  t : OS w w0.heap.size 4 1 T n tc (bools n st.tried)
theorem AgM.below {w0 w w' : World} {B : Nat} {U O T : Option Addr} {uc oc tc n : Nat} {used : Nat → Bool} {st : ASt} (h : AgM w0 w B U O T uc oc tc n used st) (hb : Below w.heap.size w w') : AgM w0 w' B U O T uc oc tc n used st :=
  ⟨h.b.trans (hb.mono h.b.size), h.u, h.o.below hb, h.t.below hb⟩
theorem AgM.trying {w0 w : World} {B g : Nat} {U O : Option Addr} {uc oc tc n : Nat} {used : Nat → Bool} {st : ASt} (h : AgM w0 w B U O (some ⟨g, 0, none⟩) uc oc tc n used st) (s : Nat) : AgM w0 (w.setCell ⟨g, s, none⟩ (.bool true)) B U O (some ⟨g, 0, none⟩) uc oc tc n used ⟨st.owner, setF st.tried s true⟩ := by
  have hlt := h.t.lt (k := g) rfl
  have hu := h.t.set s (.bool true)
  rw [bools_set] at hu
  have hty := h.o.typed h.t (by decide)
  refine ⟨h.b.setCell hlt.1 _, h.u, h.o.setFar ?_ _, hu⟩
  rcases hty with h1 | h1
  · rw [h1]; simp
  · exact h1
theorem AgM.owning {w0 w : World} {B g : Nat} {U T : Option Addr} {uc oc tc n : Nat} {used : Nat → Bool} {st : ASt} (h : AgM w0 w B U (some ⟨g, 0, none⟩) T uc oc tc n used st) (s : Nat) (k : Int) : AgM w0 (w.setCell ⟨g, s, none⟩ (.int .i64 k)) B U (some ⟨g, 0, none⟩) T uc oc tc n used ⟨setF st.owner s k, st.tried⟩ := by
  have hlt := h.o.lt (k := g) rfl
  have hu := h.o.set s (.int .i64 k)
  rw [owns_set] at hu
  have hty := h.t.typed h.o (by decide)
  refine ⟨h.b.setCell hlt.1 _, h.u, hu, h.t.setFar ?_ _⟩
  rcases hty with h1 | h1
  · rw [h1]; simp
  · exact h1
theorem AgM.cells {w0 w : World} {B : Nat} {U O T : Option Addr} {uc oc tc n : Nat} {used : Nat → Bool} {st : ASt} (h : AgM w0 w B U O T uc oc tc n used st) {s : Nat} (hs : s < n) :
    ∃ gu go gt, U = some ⟨gu, 0, none⟩ ∧ O = some ⟨go, 0, none⟩ ∧ T = some ⟨gt, 0, none⟩ ∧ w.cell? ⟨gu, s, none⟩ = some (.bool (used s)) ∧ w.cell? ⟨go, s, none⟩ = some (.int .i64 (st.owner s)) ∧ w.cell? ⟨gt, s, none⟩ = some (.bool (st.tried s)) ∧
      w.frozen? ⟨go, s, none⟩ = false ∧ w.frozen? ⟨gt, s, none⟩ = false := by
  obtain ⟨gu, rfl, u1, -⟩ := (h.u.below h.b).cell (bools_at hs)
  obtain ⟨go, rfl, o1, o2⟩ := h.o.cell (owns_at hs)
  obtain ⟨gt, rfl, t1, t2⟩ := h.t.cell (bools_at hs)
  exact ⟨gu, go, gt, rfl, rfl, rfl, u1, o1, t1, o2, t2⟩
theorem AgM.fz {w0 w : World} {B g : Nat} {U T : Option Addr} {uc oc tc n : Nat} {used : Nat → Bool} {st : ASt} (h : AgM w0 w B U (some ⟨g, 0, none⟩) T uc oc tc n used st) {s : Nat} (hs : s < n) : w.frozen? ⟨g, s, none⟩ = false ∧ w.cell? ⟨g, s, none⟩ = some (.int .i64 (st.owner s)) := by
  obtain ⟨g', e, o1, o2⟩ := h.o.cell (owns_at hs)
  injection e with e
  injection e with e
  subst e
  exact ⟨o2, o1⟩
def SubA (w0 : World) (B : Nat) (A U O T : Option Addr) (ac uc oc tc n : Nat) (L : List (List Int)) (used : Nat → Bool) (f : Nat) : Prop :=
  ∀ (w : World) (k : Nat) (st : ASt), k < n → unT n st.tried ≤ f → Ob n st.owner → AgM w0 w B U O T uc oc tc n used st →
    Calls Try.prog 109 #[.slice A n ac, .int .i64 k, .slice U n uc, .slice O n oc, .slice T n tc] w fun e w' => e = .returned (.bool (augP L used (f + 1) k st).1) ∧ AgM w0 w' B U O T uc oc tc n used (augP L used (f + 1) k st).2
set_option maxRecDepth 100000 in
set_option maxHeartbeats 4000000 in
theorem augment_step (w0 : World) (B : Nat) (A U O T : Option Addr) (ac uc oc tc n : Nat) (L : List (List Int)) (used : Nat → Bool) (ha : RR w0 A n L) (hL : LOk n L) (hn : n ≤ 1000) (f : Nat)
    (hsub : ∀ (w : World) (k : Nat) (st : ASt), k < n → unT n st.tried < f → Ob n st.owner → AgM w0 w B U O T uc oc tc n used st →
      Calls Try.prog 109 #[.slice A n ac, .int .i64 k, .slice U n uc, .slice O n oc, .slice T n tc] w fun e w' => e = .returned (.bool (augP L used f k st).1) ∧ AgM w0 w' B U O T uc oc tc n used (augP L used f k st).2) :
    SubA w0 B A U O T ac uc oc tc n L used f := by
  intro w k st hk hf hob hm
  obtain ⟨R, hR⟩ : ∃ R, augP L used (f + 1) k st = R := ⟨_, rfl⟩
  rw [hR]
  obtain ⟨ad, RX, rn, rc, rfl, hcx, hrn, hrc, hRX⟩ := ha.get hk
  have hRl := hRX.len
  have hcx := below_cell hm.b hcx
  have HRX := Lib.hid hRX
  have HZ := Lib.hid (fun z hz => hL k z hk hz)
  have HR := Lib.hid (show augL (augP L used f) used k ((row L k).drop 0) st = R by rw [List.drop_zero, ← hR, augP])
  have HBD := Lib.hid (fun (j : Nat) (t : ASt) (hj : j < n) (h : Ob n t.owner) => augP_bd (used := used) hL f j t hj h)
  have HL := Lib.hid hL
  have HA := Lib.hid ha
  have HSUB := Lib.hid hsub
  have HMO := Lib.hid (fun (j : Nat) (t : ASt) (s : Nat) (h : t.tried s = true) => augP_mono (L := L) (used := used) f j t s h)
  have hrb : rn ≤ 9223372036854775807 := Nat.le_trans hrn hrc
  have HM := Lib.hid hm
  clear hR hL ha hsub hrn hrc hRX hm
  go_enter Try.func109, Try.ntmps109
  go_wp2_with (fail)
  go_loopw [12, 18] (fun _ i wr => ∃ (j : Nat) (t : ASt), j ≤ rn ∧ i = .int .i64 j ∧ AgM w0 wr B U O T uc oc tc n used t ∧ augL (augP L used f) used k ((row L k).drop j) t = R ∧ unT n t.tried ≤ f ∧ Ob n t.owner) (fun _ i _ => rn - (intOf i).toNat)
  case atStart => exact ⟨0, st, Nat.zero_le _, rfl, HM.out, HR.out, hf, hob⟩
  case round =>
    clear HM HR hf hob hcx
    obtain ⟨j, t, hj, rfl, hm, hT, hf, hob⟩ := hrel
    by_cases hlt : j < rn
    · obtain ⟨ax, rfl, hcz, -⟩ := (HRX.out.keep hm.b).get hlt
      have hzm : nth (row L k) j ∈ row L k := by rw [nth_get (by omega)]; exact List.getElem_mem _
      obtain ⟨z0, z1⟩ := HZ.out _ hzm
      rw [drop_int (by omega), augL] at hT
      generalize nth (row L k) j = z at *
      obtain ⟨s, rfl⟩ := Int.eq_ofNat_of_zero_le z0
      simp only [Int.toNat_natCast] at hT
      have hs : s < n := by omega
      obtain ⟨gu, go, gt, rfl, rfl, rfl, u1, o1, t1, o2, t2⟩ := hm.cells hs
      have HT := Lib.hid hT
      have HM := Lib.hid hm
      clear hT hm z0 z1 hzm
      cases hu : used s with
      | true =>
        rw [hu] at u1
        have HT2 := Lib.hid (show augL (augP L used f) used k ((row L k).drop (j + 1)) t = R by have := HT.out; rwa [if_pos (.inl hu)] at this)
        clear HT
        go_wp2
        go_roundw
        case rel => exact ⟨j + 1, t, by omega, by go_num, HM.out, HT2.out, hf, hob⟩
        case measure => simp [intOf]; omega
      | false =>
        rw [hu] at u1
        cases ht : t.tried s with
        | true =>
          rw [ht] at t1
          have HT2 := Lib.hid (show augL (augP L used f) used k ((row L k).drop (j + 1)) t = R by have := HT.out; rwa [if_pos (.inr ht)] at this)
          clear HT
          go_wp2
          go_roundw
          case rel => exact ⟨j + 1, t, by omega, by go_num, HM.out, HT2.out, hf, hob⟩
          case measure => simp [intOf]; omega
        | false =>
          rw [ht] at t1
          have hT := HT.out
          rw [if_neg (by rw [hu, ht]; simp)] at hT
          have hun := unT_put hs ht
          have hm3 := HM.out.trying s
          obtain ⟨gu2, go2, gt2, e1, e2, e3, v1, p1, q1, p2, q2⟩ := hm3.cells hs
          injection e1 with e1
          injection e2 with e2
          injection e3 with e3
          injection e1 with e1
          injection e2 with e2
          injection e3 with e3
          subst e1 e2 e3
          have HM3 := Lib.hid hm3
          have hob0 := hob s hs
          have HOB := Lib.hid hob
          clear HT HM hm3 hob
          simp only [] at p1
          by_cases h2 : t.owner s < 0
          · rw [if_pos h2] at hT
            have HT := Lib.hid hT
            have hc1 : decide (t.owner s < 0) = true := by simpa using h2
            have hm4 := HM3.out.owning s k
            obtain ⟨-, -, -, -, -, -, -, -, -, p4, -⟩ := hm4.cells hs
            have HM4 := Lib.hid hm4
            clear hT hm4
            go_wp2
            go_ret
            rw [← HT.out]
            exact ⟨rfl, HM4.out⟩
          · rw [if_neg h2] at hT
            have hc1 : decide (t.owner s < 0) = false := by simpa using h2
            obtain ⟨i, hi⟩ := Int.eq_ofNat_of_zero_le (show 0 ≤ t.owner s by omega)
            have hin : i < n := by omega
            rw [hi, Int.toNat_natCast] at hT
            rw [hi] at p1 o1 hc1
            have hs3 := HSUB.out (wr.setCell ⟨gt, s, none⟩ (.bool true)) i ⟨t.owner, setF t.tried s true⟩ hin (by simp only []; omega) HOB.out HM3.out
            have hob4 := HBD.out i ⟨t.owner, setF t.tried s true⟩ hin HOB.out
            have hmo4 := unT_le (n := n) (T := setF t.tried s true) (HMO.out i ⟨t.owner, setF t.tried s true⟩)
            generalize augP L used f i ⟨t.owner, setF t.tried s true⟩ = X at *
            obtain ⟨b, X⟩ := X
            have HOB4 := Lib.hid hob4
            cases b with
            | true =>
              have HT2 := Lib.hid (show (true, (⟨setF X.owner s (k : Int), X.tried⟩ : ASt)) = R by rwa [if_pos rfl] at hT)
              clear hob4 HM3 h2 hT
              simp only [] at hs3
              go_wp2_with (go_at_call 109; refine hs3.mono ?_; rintro e w5 ⟨rfl, hm5⟩; obtain ⟨p9, p8⟩ := hm5.fz hs)
              go_ret
              rw [← HT2.out]
              exact ⟨rfl, hm5.owning s k⟩
            | false =>
              have HT2 := Lib.hid (show augL (augP L used f) used k ((row L k).drop (j + 1)) X = R by rwa [if_neg (by simp)] at hT)
              clear hob4 HM3 h2 hT
              simp only [] at hs3
              go_wp2_with (go_at_call 109; refine hs3.mono ?_; rintro e w5 ⟨rfl, hm5⟩; have HM5 := Lib.hid hm5; clear hm5)
              go_roundw
              case rel => exact ⟨j + 1, X, by omega, by go_num, HM5.out, HT2.out, Nat.le_trans hmo4 (by omega), HOB4.out⟩
              case measure => simp [intOf]; omega
    · obtain rfl : j = rn := by omega
      rw [List.drop_eq_nil_of_le (by omega), augL] at hT
      have HT := Lib.hid hT
      have HM := Lib.hid hm
      clear hT hm
      go_wp2
      go_ret
      rw [← HT.out]
      exact ⟨rfl, HM.out⟩
theorem augment_any (w0 : World) (B : Nat) (A U O T : Option Addr) (ac uc oc tc n : Nat) (L : List (List Int)) (used : Nat → Bool) (ha : RR w0 A n L) (hL : LOk n L) (hn : n ≤ 1000) : ∀ f, SubA w0 B A U O T ac uc oc tc n L used f
  | 0 => augment_step w0 B A U O T ac uc oc tc n L used ha hL hn 0 (fun _ _ _ _ h => absurd h (Nat.not_lt_zero _))
  | f + 1 => augment_step w0 B A U O T ac uc oc tc n L used ha hL hn (f + 1) (fun w k st hk hf => augment_any w0 B A U O T ac uc oc tc n L used ha hL hn f w k st hk (by omega))
end Go.Proofs.Ytcnjlkabdfcjdaa
/- Whether lists can be matched: the program's side. No condition beyond those stated. -/
namespace Go.Proofs.Ytcnjlkabdfcjdaa
open Go.RowKit

theorem int_infoO : (Try.prog.info? 3).map (fun i => (i.zero, i.size, i.bytes)) = some (some (.int .i64 0), 1, 8) := by kernel_rfl
theorem owns_zero (n : Nat) : List.replicate n (Value.int .i64 0) = owns n fun _ => 0 := by
  apply List.ext_getElem?
  intro c
  by_cases hc : c < n
  · rw [owns_at hc, List.getElem?_replicate, if_pos hc]
  · rw [List.getElem?_eq_none (by simp; omega), List.getElem?_eq_none (by rw [owns_len]; omega)]
theorem owns_congr {n : Nat} {f g : Nat → Int} (h : ∀ b, b < n → f b = g b) : owns n f = owns n g := by
  unfold owns
  exact List.map_congr_left fun b hb => by rw [h b (by simpa using hb)]
theorem owns_fill {n j : Nat} : owns n (setF (fun s => if s < j then (-1 : Int) else 0) j (-1)) = owns n fun s => if s < j + 1 then -1 else 0 :=
  owns_congr fun b hb => by
    unfold setF
    show (if b = j then (-1 : Int) else if b < j then -1 else 0) = if b < j + 1 then -1 else 0
    by_cases e : b = j
    · rw [if_pos e, if_pos (by omega)]
    · rw [if_neg e]
      by_cases e2 : b < j
      · rw [if_pos e2, if_pos (by omega)]
      · rw [if_neg e2, if_neg (by omega)]
theorem matS_bd {n : Nat} {L : List (List Int)} {used : Nat → Bool} (hL : LOk n L) {k : Nat} : ∀ m, k + m ≤ n → Ob n (matS L used n k m).2
  | 0, _ => fun s _ => by simp only [matS]; omega
  | m + 1, h => by
    rw [matS]
    split
    · exact augP_bd hL _ _ _ (by omega) (matS_bd hL m (by omega))
    · exact matS_bd hL m (by omega)
set_option maxRecDepth 100000 in
set_option maxHeartbeats 1000000 in
theorem matchable_any (A U : Option Addr) (ac uc n B k : Nat) (L : List (List Int)) (used : Nat → Bool) (w : World) (ha : RR w A n L) (hu : OS w B 4 1 U n uc (bools n used)) (hL : LOk n L) (hn : n ≤ 1000) (hk : k ≤ n) :
    Calls Try.prog 91 #[.slice A n ac, .int .i64 k, .slice U n uc] w fun e w' => e = .returned (.bool (matP L used n k)) ∧ Below w.heap.size w w' := by
  have hmk := run_make_row' (P := Try.prog) 124 3 (.int .i64 0) 8 Try.underlying124 int_infoO rfl .i64 .i64 n (by omega) (by omega)
  have hos := OS.made w w.heap.size 3 (.int .i64 0) n (Nat.le_refl _) (by omega)
  rw [owns_zero] at hos
  have hb1 := below_alloc w (.cells (madeCells #[.int .i64 0] n) 3)
  have HAUG := Lib.hid (fun O T oc tc => augment_any w B A U O T ac uc oc tc n L used ha hL hn n)
  have HBD := Lib.hid (fun m => matS_bd (used := used) hL (k := k) m)
  have HU := Lib.hid hu
  clear ha hu hL
  go_enter Try.func91, Try.ntmps91
  go_wp2
  generalize w.alloc (.cells (madeCells #[.int .i64 0] n) 3) = w1 at *
  go_loopw [8, 15] (fun _ i wr => ∃ (j : Nat), j ≤ n ∧ i = .int .i64 j ∧ OS wr w.heap.size 3 1 (some ⟨w.heap.size, 0, none⟩) n n (owns n fun s => if s < j then -1 else 0) ∧ Below w.heap.size w wr) (fun _ i _ => n - (intOf i).toNat)
  case atStart => exact ⟨0, Nat.zero_le _, rfl, by rwa [show (fun s => if s < 0 then (-1 : Int) else 0) = fun _ => 0 from funext fun s => if_neg (Nat.not_lt_zero _)], hb1⟩
  case round =>
    clear hos hb1 hmk
    obtain ⟨j, hj, rfl, hos, hb⟩ := hrel
    by_cases hlt : j < n
    · obtain ⟨g', hg', hcv, hfz⟩ := hos.cell (owns_at hlt)
      injection hg' with hg'
      injection hg' with hg'
      subst hg'
      have hos2 := hos.set j (.int .i64 (-1))
      rw [owns_set, owns_fill] at hos2
      have hb2 := hb.setCell (p := ⟨w.heap.size, j, none⟩) (Nat.le_refl _) (.int .i64 (-1))
      have HOS := Lib.hid hos2
      have HB := Lib.hid hb2
      clear hos hos2 hb hb2
      go_wp2
      go_roundw
      case rel => exact ⟨j + 1, by omega, by go_num, HOS.out, HB.out⟩
      case measure => simp [intOf]; omega
    · obtain rfl : j = n := by omega
      rw [owns_congr (g := fun _ => -1) (fun b hb => if_pos hb)] at hos
      have HOS := Lib.hid hos
      have HB := Lib.hid hb
      clear hos hb
      go_wp2
      go_loopw [9] (fun i wr => ∃ (q m : Nat), q = k + m ∧ q ≤ j ∧ i = .int .i64 q ∧ OS wr w.heap.size 3 1 (some ⟨w.heap.size, 0, none⟩) j j (owns j (matS L used j k m).2) ∧ (matS L used j k m).1 = true ∧ Below w.heap.size w wr) (fun i _ => j - (intOf i).toNat)
      case atStart => exact ⟨k, 0, rfl, by omega, rfl, HOS.out, rfl, HB.out⟩
      case round =>
        clear HOS HB
        obtain ⟨q, m, hq, hm, rfl, hos, hmt, hb⟩ := hrel
        by_cases hlt : q < j
        · have hmk := run_make_row' (P := Try.prog) 57 4 (.bool false) 1 Try.underlying57 bool_infoO rfl .i64 .i64 j (by omega) (by omega)
          have ht := OS.made wr w.heap.size 4 (.bool false) j hb.size (by omega)
          rw [bools_false] at ht
          have hb1 := below_alloc wr (.cells (madeCells #[.bool false] j) 4)
          have hAg : AgM w (wr.alloc (.cells (madeCells #[.bool false] j) 4)) B U (some ⟨w.heap.size, 0, none⟩) (some ⟨wr.heap.size, 0, none⟩) uc j j j used ⟨(matS L used j k m).2, noT⟩ := ⟨hb.trans (hb1.mono hb.size), HU.out, hos.below hb1, ht⟩
          have hcall := HAUG.out _ _ _ _ (wr.alloc (.cells (madeCells #[.bool false] j) 4)) q ⟨(matS L used j k m).2, noT⟩ hlt (by simp only [unT_noT]; exact Nat.le_refl _) (HBD.out m (by omega)) hAg
          have hst : matS L used j k (m + 1) = ((augP L used (j + 1) q ⟨(matS L used j k m).2, noT⟩).1, (augP L used (j + 1) q ⟨(matS L used j k m).2, noT⟩).2.owner) := by rw [matS, if_pos hmt, hq]
          generalize augP L used (j + 1) q ⟨(matS L used j k m).2, noT⟩ = X at *
          obtain ⟨b, X⟩ := X
          have HST := Lib.hid hst
          have HQ := Lib.hid hq
          clear hq
          clear hst hAg ht hb1 hos hb
          simp only [] at hcall
          cases b with
          | true =>
            go_wp2_with (go_at_call 109; refine hcall.mono ?_; rintro e w5 ⟨rfl, hm5⟩; have HM5 := Lib.hid hm5; clear hm5)
            go_roundw
            case rel => exact ⟨q + 1, m + 1, by have := HQ.out; omega, by omega, by go_num, by rw [HST.out]; exact HM5.out.o, by rw [HST.out], HM5.out.b⟩
            case measure => simp [intOf]; omega
          | false =>
            go_wp2_with (go_at_call 109; refine hcall.mono ?_; rintro e w5 ⟨rfl, hm5⟩; have HM5 := Lib.hid hm5; clear hm5)
            go_ret
            refine ⟨?_, HM5.out.b⟩
            rw [matP, matS_false (m := m + 1) (by rw [HST.out]) (j - k) (by have := HQ.out; omega)]
            rfl
        · obtain rfl : m = j - k := by omega
          obtain rfl : q = j := by omega
          have HMT := Lib.hid hmt
          have HB := Lib.hid hb
          clear hq hmt hos hb hm
          go_wp2
          go_ret
          refine ⟨?_, HB.out⟩
          rw [matP, HMT.out]
          rfl
end Go.Proofs.Ytcnjlkabdfcjdaa
