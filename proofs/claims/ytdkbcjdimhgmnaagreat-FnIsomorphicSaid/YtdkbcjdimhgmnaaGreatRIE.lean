/- The permutation that leaves all in place, on both sides. No condition beyond those stated. -/
import Derived.Test.YtdkbcjdimhgmnaaGreatRHR
import Derived.Maps.OwnOps
import Derived.Maps.Views
import Derived.Laws.BytesArg
set_option linter.unusedVariables false
set_option linter.unusedSimpArgs false
namespace Go.Proofs.YtdkbcjdimhgmnaaGreat
open Go.RowKit
theorem iota_take {n k : Nat} (h : k < n) : (iotaP n).take k ++ [(k : Int)] = (iotaP n).take (k + 1) := by
  rw [List.take_succ_eq_append_getElem (by rw [iotaP_len]; exact h), ← nth_get (by rw [iotaP_len]; exact h), iotaP_nth h]
set_option maxHeartbeats 1000000 in
theorem l04One_any (n : Nat) (w : World) (hn : n ≤ 1048576) :
    Calls Tryz.prog 121 #[.int .i64 n] w (RetI w 2 (iotaP n)) := by
  go_enter Tryz.func121, Tryz.ntmps121
  go_wp2_with fail
  have hb1 := below_alloc w (.cells #[] 2)
  have ho0 : OI (w.alloc (.cells #[] 2)) w.heap.size 2 (some ⟨w.heap.size, 0, none⟩) 0 0 ((iotaP n).take 0) := by simpa [ints] using OI.lit w w.heap.size 2 [] (Nat.le_refl _) (by simp) (by simp [All64])
  go_loopw [3, 4] (fun l i wr => ∃ (k : Nat) (A' : Option Addr) (c' : Nat), k ≤ n ∧ i = .int .i64 k ∧ l = .slice A' k c' ∧ OI wr w.heap.size 2 A' k c' ((iotaP n).take k) ∧ Below w.heap.size w wr) (fun _ i _ => n - (intOf i).toNat)
  case atStart => exact ⟨0, _, 0, Nat.zero_le _, rfl, rfl, ho0, hb1⟩
  case round =>
    clear ho0 hb1
    obtain ⟨k, A', c', hk, rfl, rfl, ho, hw⟩ := hrel
    by_cases hlt : k < n
    · have HN := Lib.hid (iota_take hlt)
      have hki : I64 (k : Int) := by unfold I64; omega
      have hws := hw.size
      go_wp2_with (at_builtin; refine app_int _ rfl (.tmp 11) (.tmp 13) rfl w.heap.size A' k c' _ rfl ho (k : Int) wr.heap.size rfl rfl hki (by omega) hws ?_; intro A4 c4 w4 ho4 hg4 hf4; have hb4 := below_own hw hg4 hws (fun q hq => (ho.os.lt hq).1))
      rw [HN.out] at ho4
      go_roundw
      case rel => exact ⟨k + 1, A4, c4, by omega, by go_num, rfl, ho4, hb4⟩
      case measure => simp [intOf]; omega
    · obtain rfl : k = n := by omega
      rw [List.take_of_length_le (by rw [iotaP_len]; exact Nat.le_refl _)] at ho
      go_wp2
      go_ret
      exact ⟨_, _, _, rfl, ho, hw⟩
def PermN (n : Nat) (p : List Int) : Prop := p.length = n ∧ Perm p
theorem PermN.one (n : Nat) : PermN n (iotaP n) := ⟨iotaP_len n, iotaP_perm n⟩
theorem PermN.mul {n : Nat} {p q : List Int} (hp : PermN n p) (hq : PermN n q) : PermN n (thenP p q) := ⟨by rw [thenP_len, hp.1], thenP_perm hp.2 hq.2 (by rw [hp.1, hq.1])⟩
theorem PermN.nat {n : Nat} {p : List Int} (hp : PermN n p) {v : Nat} (hv : v < n) : (nth p v).toNat < n := by
  have := hp.2.bd v (by rw [hp.1]; exact hv)
  rw [hp.1] at this
  omega
theorem thenP_one {n : Nat} {p : List Int} (hp : PermN n p) : thenP p (iotaP n) = p := by
  refine nth_ext (thenP_len _ _) fun k hk => ?_
  rw [thenP_len, hp.1] at hk
  have h1 := hp.2.bd k (by rw [hp.1]; exact hk)
  rw [thenP_nth (by rw [hp.1]; exact hk), iotaP_nth (hp.nat hk)]
  omega
theorem one_thenP {n : Nat} {p : List Int} (hp : PermN n p) : thenP (iotaP n) p = p := by
  refine nth_ext (by rw [thenP_len, iotaP_len, hp.1]) fun k hk => ?_
  rw [thenP_len, iotaP_len] at hk
  rw [thenP_nth (by rw [iotaP_len]; exact hk), iotaP_nth hk]
  rfl
theorem thenP_assoc {n : Nat} {p q r : List Int} (hp : PermN n p) (hq : PermN n q) : thenP (thenP p q) r = thenP p (thenP q r) := by
  refine nth_ext (by simp [thenP_len]) fun k hk => ?_
  rw [thenP_len, thenP_len, hp.1] at hk
  rw [thenP_nth (by rw [thenP_len, hp.1]; exact hk), thenP_nth (by rw [hp.1]; exact hk), thenP_nth (by rw [hp.1]; exact hk), thenP_nth (by rw [hq.1]; exact hp.nat hk)]
inductive Gen (n : Nat) (gs : List (List Int)) : List Int → Prop where
  | one : Gen n gs (iotaP n)
  | mul {p g : List Int} : Gen n gs p → g ∈ gs → Gen n gs (thenP p g)
def AllN (n : Nat) (gs : List (List Int)) : Prop := ∀ g ∈ gs, PermN n g
theorem Gen.perm {n : Nat} {gs : List (List Int)} (hg : AllN n gs) {p : List Int} (h : Gen n gs p) : PermN n p := by
  induction h with
  | one => exact PermN.one n
  | mul _ hm ih => exact ih.mul (hg _ hm)
theorem Gen.up {n : Nat} {gs hs : List (List Int)} (h : ∀ g ∈ gs, g ∈ hs) {p : List Int} (hp : Gen n gs p) : Gen n hs p := by
  induction hp with
  | one => exact .one
  | mul _ hm ih => exact .mul ih (h _ hm)
theorem Gen.of_mem {n : Nat} {gs : List (List Int)} (hg : AllN n gs) {g : List Int} (h : g ∈ gs) : Gen n gs g := by
  have := Gen.mul (Gen.one (n := n) (gs := gs)) h
  rwa [one_thenP (hg g h)] at this
theorem Gen.times {n : Nat} {gs : List (List Int)} (hg : AllN n gs) {p q : List Int} (hp : Gen n gs p) (hq : Gen n gs q) : Gen n gs (thenP p q) := by
  induction hq with
  | one => rw [thenP_one (hp.perm hg)]; exact hp
  | mul hq hm ih =>
    rw [← thenP_assoc (hp.perm hg) (hq.perm hg)]
    exact .mul ih hm
theorem Gen.into {n : Nat} {gs hs : List (List Int)} (hg : AllN n gs) (h : ∀ g ∈ hs, Gen n gs g) {p : List Int} (hp : Gen n hs p) : Gen n gs p := by
  induction hp with
  | one => exact .one
  | mul _ hm ih => exact ih.times hg (h _ hm)
def GenL (n : Nat) (gs L : List (List Int)) : Prop := StrictL cmpL L ∧ ∀ x, x ∈ L ↔ Gen n gs x
def Over (n : Nat) (gs : List (List Int)) (most : Nat) : Prop := ∃ E : List (List Int), E.Nodup ∧ (∀ x ∈ E, Gen n gs x) ∧ most < E.length
def ClosedG (n : Nat) (L : List (List Int)) : Prop := ∀ x, Gen n L x → x ∈ L
theorem ClosedG.not_over {n : Nat} {L gs : List (List Int)} (h : ClosedG n L) (hs : ∀ g ∈ gs, g ∈ L) {m : Nat} (hm : L.length ≤ m) : ¬ Over n gs m := by
  rintro ⟨E, h1, h2, h3⟩
  have := h1.length_le_of_subset (l₂ := L) fun x hx => h x ((h2 x hx).up hs)
  omega
theorem closed_of {n : Nat} {L gs A : List (List Int)} (hL : StrictL cmpL L) (hg : AllN n gs) (hA : GenL n gs A) (hi : ∀ x ∈ L, x ∈ A) (hl : A.length ≤ L.length) : A = L ∧ ClosedG n L := by
  have hnd := strict_nodup cmpL_ord hL
  have hs : ∀ x ∈ A, x ∈ L := by
    intro x hx
    refine Classical.byContradiction fun hn => ?_
    have h1 : (x :: L).Nodup := List.nodup_cons.2 ⟨hn, hnd⟩
    have h2 := h1.length_le_of_subset (l₂ := A) fun y hy => by
      rcases List.mem_cons.1 hy with h | h
      · rw [h]; exact hx
      · exact hi y h
    rw [List.length_cons] at h2
    omega
  have e : A = L := strict_unique cmpL_ord hA.1 hL fun x => ⟨hs x, hi x⟩
  refine ⟨e, fun x hx => ?_⟩
  rw [← e]
  exact (hA.2 x).2 (hx.into hg fun g hgm => (hA.2 g).1 (hi g hgm))
theorem closed_all {n : Nat} {L gs A : List (List Int)} (hL : StrictL cmpL L) (hc : ClosedG n L) (hs : ∀ g ∈ gs, g ∈ L) (hA : GenL n gs A) (hi : ∀ x ∈ L, x ∈ A) : A = L :=
  strict_unique cmpL_ord hA.1 hL fun x => ⟨fun h => hc x (((hA.2 x).1 h).up hs), hi x⟩
theorem gen_all {n : Nat} {gs E : List (List Int)} (h0 : iotaP n ∈ E) (h1 : ∀ p ∈ E, ∀ g ∈ gs, thenP p g ∈ E) {x : List Int} (hx : Gen n gs x) : x ∈ E := by
  induction hx with
  | one => exact h0
  | mul _ hm ih => exact h1 _ ih _ hm
/-! the loop that gathers them -/
structure Gath (n : Nat) (gs E : List (List Int)) (k j : Nat) : Prop where
  nd : E.Nodup
  gen : ∀ x ∈ E, Gen n gs x
  one : iotaP n ∈ E
  pos : k ≤ E.length
  done : ∀ i, i < k → ∀ g ∈ gs, thenP (row E i) g ∈ E
  next : ∀ i, i < j → thenP (row E k) (row gs i) ∈ E
theorem Gath.start (n : Nat) (gs : List (List Int)) : Gath n gs [iotaP n] 0 0 :=
  ⟨by simp, fun x hx => by rw [List.mem_singleton.1 hx]; exact .one, by simp, by simp, fun i h => by omega, fun i h => by omega⟩
theorem row_app {E F : List (List Int)} {i : Nat} (h : i < E.length) : row (E ++ F) i = row E i := by
  rw [row_get h, row_get (by rw [List.length_append]; omega), List.getElem_append_left h]
theorem Gath.old {n : Nat} {gs E : List (List Int)} {k j : Nat} (h : Gath n gs E k j) (hm : thenP (row E k) (row gs j) ∈ E) : Gath n gs E k (j + 1) :=
  ⟨h.nd, h.gen, h.one, h.pos, h.done, fun i hi => by
    rcases Nat.lt_succ_iff_lt_or_eq.1 hi with h' | h'
    · exact h.next i h'
    · rw [h']; exact hm⟩
theorem Gath.new {n : Nat} {gs E : List (List Int)} {k j : Nat} (h : Gath n gs E k j) (hk : k < E.length) (hj : j < gs.length) (hm : thenP (row E k) (row gs j) ∉ E) : Gath n gs (E ++ [thenP (row E k) (row gs j)]) k (j + 1) := by
  have hg : row gs j ∈ gs := by rw [row_get hj]; exact List.getElem_mem hj
  have he : row E k ∈ E := by rw [row_get hk]; exact List.getElem_mem hk
  refine ⟨?_, fun x hx => ?_, List.mem_append_left _ h.one, by rw [List.length_append]; have := h.pos; omega, fun i hi g hgm => ?_, fun i hi => ?_⟩
  · rw [List.nodup_append]
    exact ⟨h.nd, by simp, fun a ha b hb => by rw [List.mem_singleton.1 hb]; rintro rfl; exact hm ha⟩
  · rcases List.mem_append.1 hx with hx | hx
    · exact h.gen x hx
    · rw [List.mem_singleton.1 hx]; exact .mul (h.gen _ he) hg
  · rw [row_app (by have := h.pos; omega)]
    exact List.mem_append_left _ (h.done i hi g hgm)
  · rw [row_app hk]
    rcases Nat.lt_succ_iff_lt_or_eq.1 hi with h' | h'
    · exact List.mem_append_left _ (h.next i h')
    · rw [h']; exact List.mem_append_right _ (by simp)
theorem Gath.turn {n : Nat} {gs E : List (List Int)} {k : Nat} (h : Gath n gs E k gs.length) (hk : k < E.length) : Gath n gs E (k + 1) 0 := by
  refine ⟨h.nd, h.gen, h.one, hk, fun i hi g hg => ?_, fun i hi => by omega⟩
  rcases Nat.lt_succ_iff_lt_or_eq.1 hi with h' | h'
  · exact h.done i h' g hg
  · subst h'
    obtain ⟨q, hq, rfl⟩ := List.mem_iff_getElem.1 hg
    have := h.next q hq
    rwa [row_get hq] at this
theorem Gath.all {n : Nat} {gs E : List (List Int)} (h : Gath n gs E E.length 0) {x : List Int} : x ∈ E ↔ Gen n gs x := by
  refine ⟨h.gen x, fun hx => gen_all h.one (fun p hp g hg => ?_) hx⟩
  obtain ⟨i, hi, rfl⟩ := List.mem_iff_getElem.1 hp
  have := h.done i hi g hg
  rwa [row_get hi] at this
theorem Gath.genL {n : Nat} {gs E : List (List Int)} (h : Gath n gs E E.length 0) : GenL n gs (setG cmpL E) := ⟨setG_strict cmpL_ord E, fun x => (setG_mem cmpL_ord E x).trans h.all⟩
theorem Gath.over {n : Nat} {gs E : List (List Int)} {k j m : Nat} (h : Gath n gs E k j) (hm : m < E.length) : Over n gs m := ⟨E, h.nd, h.gen, hm⟩
/-! the choice of generators -/
structure Chose (n : Nat) (L gs A : List (List Int)) (k : Nat) : Prop where
  sub : ∀ g ∈ gs, g ∈ L
  all : GenL n gs A
  has : ∀ i, i < k → row L i ∈ A
theorem Chose.skip {n : Nat} {L gs A : List (List Int)} {k : Nat} (h : Chose n L gs A k) (hm : row L k ∈ A) : Chose n L gs A (k + 1) :=
  ⟨h.sub, h.all, fun i hi => by
    rcases Nat.lt_succ_iff_lt_or_eq.1 hi with h' | h'
    · exact h.has i h'
    · rw [h']; exact hm⟩
theorem Chose.take {n : Nat} {L gs A B : List (List Int)} {k : Nat} (h : Chose n L gs A k) (hk : k < L.length) (hL : AllN n L) (hB : GenL n (gs ++ [row L k]) B) : Chose n L (gs ++ [row L k]) B (k + 1) := by
  have hr : row L k ∈ L := by rw [row_get hk]; exact List.getElem_mem hk
  have hs : ∀ g ∈ gs ++ [row L k], g ∈ L := fun g hg => by
    rcases List.mem_append.1 hg with hg | hg
    · exact h.sub g hg
    · rw [List.mem_singleton.1 hg]; exact hr
  refine ⟨hs, hB, fun i hi => ?_⟩
  rw [hB.2]
  rcases Nat.lt_succ_iff_lt_or_eq.1 hi with h' | h'
  · exact ((h.all.2 _).1 (h.has i h')).up fun g hg => List.mem_append_left _ hg
  · rw [h']; exact Gen.of_mem (fun g hg => hL g (hs g hg)) (List.mem_append_right _ (by simp))
theorem Chose.mem {n : Nat} {L gs A : List (List Int)} (h : Chose n L gs A L.length) : ∀ x ∈ L, x ∈ A := fun x hx => by
  obtain ⟨i, hi, rfl⟩ := List.mem_iff_getElem.1 hx
  have := h.has i hi
  rwa [row_get hi] at this
structure GroupOk (d : Int) (L : List (List Int)) : Prop where
  d1 : 1 ≤ d
  d2 : d ≤ 32
  l1 : 1 ≤ L.length
  l2 : L.length ≤ 720
  perm : AllN d.toNat L
  up : StrictL cmpL L
  closed : ClosedG d.toNat L
theorem row_strict {zss : List (List Int)} (hs : StrictL cmpL zss) {i j : Nat} (hij : i < j) (hj : j < zss.length) : cmpL (row zss i) (row zss j) < 0 := by
  rw [row_get (by omega), row_get hj]
  exact List.pairwise_iff_getElem.1 hs i j (by omega) hj hij
end Go.Proofs.YtdkbcjdimhgmnaaGreat
