/- The permutation that leaves all in place, on both sides. No condition beyond those stated. -/
import Derived.Test.YtemdjochphehjaaGreatQGG
import Derived.Test.YtemdjochphehjaaGreatQGB
import Derived.Test.YtemdjochphehjaaGreatQHR
import Derived.Test.YtemdjochphehjaaGreatQHA
import Derived.Maps.OwnOps
import Derived.Maps.Views
import Derived.Laws.BytesArg
import Derived.Test.YtemdjochphehjaaGreatQHP
import Derived.Test.YtemdjochphehjaaGreatQGC
set_option linter.unusedVariables false
set_option linter.unusedSimpArgs false
namespace Go.Proofs.YtemdjochphehjaaGreat
open Go.RowKit

theorem iota_step {n k : Nat} (h : k < n) : (copied (iotaP n) (List.replicate n 0) k).set k (k : Int) = copied (iotaP n) (List.replicate n 0) (k + 1) := by
  have := copied_step (xs := iotaP n) (zs := List.replicate n 0) (j := k) (by rw [iotaP_len]; exact h) (by simpa using h)
  rwa [iotaP_nth h] at this
set_option maxHeartbeats 1000000 in
theorem identity_any (n : Nat) (w : World) (hn : n ≤ 1048576) :
    Calls Tryz.prog 202 #[.int .i64 n] w (RetI w 2 (iotaP n)) := by
  have hmk := run_make_row' (P := Tryz.prog) 22 2 (.int .i64 0) 8 Tryz.underlying22 int_info rfl .i64 .i64 n (by omega) (by omega)
  have ho0 := OI.made w w.heap.size 2 n (Nat.le_refl _) (by omega)
  rw [← copied_zero (iotaP n) (List.replicate n 0)] at ho0
  have hb0 := below_alloc w (.cells (madeCells #[.int .i64 0] n) 2)
  go_enter Tryz.func202, Tryz.ntmps202
  go_wp2
  go_loopw [4, 9] (fun _ i wr => ∃ k : Nat, k ≤ n ∧ i = .int .i64 k ∧ OI wr w.heap.size 2 (some ⟨w.heap.size, 0, none⟩) n n (copied (iotaP n) (List.replicate n 0) k) ∧ Below w.heap.size w wr) (fun _ i _ => n - (intOf i).toNat)
  case atStart => exact ⟨0, Nat.zero_le _, rfl, ho0, hb0⟩
  case round =>
    clear ho0 hb0 hmk
    obtain ⟨k, hk, rfl, ho, hw⟩ := hrel
    by_cases hlt : k < n
    · obtain ⟨g, hg, cc, cf, -⟩ := ho.cell hlt
      cases hg
      have ho2 := ho.set k (u := (k : Int)) (by unfold I64; omega)
      rw [iota_step hlt] at ho2
      have hw2 := Below.setCell hw (p := ⟨w.heap.size, k, none⟩) (Nat.le_refl _) (.int .i64 (k : Int))
      clear ho hw
      go_wp2
      go_roundw
      case rel => exact ⟨k + 1, by omega, by go_num, ho2, hw2⟩
      case measure => simp [intOf]; omega
    · obtain rfl : k = n := by omega
      have hall := copied_all (xs := iotaP k) (zs := List.replicate k 0) (by rw [iotaP_len]; simp)
      rw [iotaP_len] at hall
      rw [hall] at ho
      go_wp2
      go_ret
      exact ⟨_, _, _, rfl, ho, hw⟩
theorem iota_take {n k : Nat} (h : k < n) : (iotaP n).take k ++ [(k : Int)] = (iotaP n).take (k + 1) := by
  rw [List.take_succ_eq_append_getElem (by rw [iotaP_len]; exact h), ← nth_get (by rw [iotaP_len]; exact h), iotaP_nth h]
set_option maxHeartbeats 1000000 in
theorem l04One_any (n : Nat) (w : World) (hn : n ≤ 1048576) :
    Calls Tryz.prog 214 #[.int .i64 n] w (RetI w 2 (iotaP n)) := by
  go_enter Tryz.func214, Tryz.ntmps214
  go_wp2_with fail
  have hb1 := below_alloc w (.cells #[] 2)
  have ho0 : OI (w.alloc (.cells #[] 2)) w.heap.size 2 (some ⟨w.heap.size, 0, none⟩) 0 0 ((iotaP n).take 0) := by simpa [ints] using OI.lit w w.heap.size 2 [] (Nat.le_refl _) (by simp) (by simp [All64])
  go_loopw [3, 4] (fun l i wr => ∃ (k : Nat) (A' : Option Addr) (c' : Nat), k ≤ n ∧ i = .int .i64 k ∧ l = .slice A' k c' ∧ OI wr w.heap.size 2 A' k c' ((iotaP n).take k) ∧ Below w.heap.size w wr) (fun _ i _ => n - (intOf i).toNat)
  case atStart => exact ⟨0, _, 0, Nat.zero_le _, rfl, rfl, ho0, hb1⟩
  case round =>
    clear ho0 hb1
    obtain ⟨k, A', c', hk, rfl, rfl, ho, hw⟩ := hrel
    by_cases hlt : k < n
    · have HN := Lib.hid (iota_take hlt)
      have hki : I64 (k : Int) := by unfold I64; omega
      have hws := hw.size
      go_wp2_with (at_builtin; refine app_int _ rfl (.tmp 11) (.tmp 13) rfl w.heap.size A' k c' _ rfl ho (k : Int) wr.heap.size rfl rfl hki (by omega) hws ?_; intro A4 c4 w4 ho4 hg4 hf4; have hb4 := below_own hw hg4 hws (fun q hq => (ho.os.lt hq).1))
      rw [HN.out] at ho4
      go_roundw
      case rel => exact ⟨k + 1, A4, c4, by omega, by go_num, rfl, ho4, hb4⟩
      case measure => simp [intOf]; omega
    · obtain rfl : k = n := by omega
      rw [List.take_of_length_le (by rw [iotaP_len]; exact Nat.le_refl _)] at ho
      go_wp2
      go_ret
      exact ⟨_, _, _, rfl, ho, hw⟩
end Go.Proofs.YtemdjochphehjaaGreat
/- Plain words for groups of permutations: what generators generate. No condition beyond those stated. -/
namespace Go.Proofs.YtemdjochphehjaaGreat
open Go.RowKit

/-- a permutation of n numbers -/
def PermN (n : Nat) (p : List Int) : Prop := p.length = n ∧ Perm p
theorem PermN.one (n : Nat) : PermN n (iotaP n) := ⟨iotaP_len n, iotaP_perm n⟩
theorem PermN.mul {n : Nat} {p q : List Int} (hp : PermN n p) (hq : PermN n q) : PermN n (thenP p q) := ⟨by rw [thenP_len, hp.1], thenP_perm hp.2 hq.2 (by rw [hp.1, hq.1])⟩
theorem PermN.nat {n : Nat} {p : List Int} (hp : PermN n p) {v : Nat} (hv : v < n) : (nth p v).toNat < n := by
  have := hp.2.bd v (by rw [hp.1]; exact hv)
  rw [hp.1] at this
  omega
theorem thenP_one {n : Nat} {p : List Int} (hp : PermN n p) : thenP p (iotaP n) = p := by
  refine nth_ext (thenP_len _ _) fun k hk => ?_
  rw [thenP_len, hp.1] at hk
  have h1 := hp.2.bd k (by rw [hp.1]; exact hk)
  rw [thenP_nth (by rw [hp.1]; exact hk), iotaP_nth (hp.nat hk)]
  omega
theorem one_thenP {n : Nat} {p : List Int} (hp : PermN n p) : thenP (iotaP n) p = p := by
  refine nth_ext (by rw [thenP_len, iotaP_len, hp.1]) fun k hk => ?_
  rw [thenP_len, iotaP_len] at hk
  rw [thenP_nth (by rw [iotaP_len]; exact hk), iotaP_nth hk]
  rfl
theorem thenP_assoc {n : Nat} {p q r : List Int} (hp : PermN n p) (hq : PermN n q) : thenP (thenP p q) r = thenP p (thenP q r) := by
  refine nth_ext (by simp [thenP_len]) fun k hk => ?_
  rw [thenP_len, thenP_len, hp.1] at hk
  rw [thenP_nth (by rw [thenP_len, hp.1]; exact hk), thenP_nth (by rw [hp.1]; exact hk), thenP_nth (by rw [hp.1]; exact hk), thenP_nth (by rw [hq.1]; exact hp.nat hk)]
/-- what some permutations generate -/
inductive Gen (n : Nat) (gs : List (List Int)) : List Int → Prop where
  | one : Gen n gs (iotaP n)
  | mul {p g : List Int} : Gen n gs p → g ∈ gs → Gen n gs (thenP p g)
def AllN (n : Nat) (gs : List (List Int)) : Prop := ∀ g ∈ gs, PermN n g
theorem Gen.perm {n : Nat} {gs : List (List Int)} (hg : AllN n gs) {p : List Int} (h : Gen n gs p) : PermN n p := by
  induction h with
  | one => exact PermN.one n
  | mul _ hm ih => exact ih.mul (hg _ hm)
theorem Gen.up {n : Nat} {gs hs : List (List Int)} (h : ∀ g ∈ gs, g ∈ hs) {p : List Int} (hp : Gen n gs p) : Gen n hs p := by
  induction hp with
  | one => exact .one
  | mul _ hm ih => exact .mul ih (h _ hm)
theorem Gen.of_mem {n : Nat} {gs : List (List Int)} (hg : AllN n gs) {g : List Int} (h : g ∈ gs) : Gen n gs g := by
  have := Gen.mul (Gen.one (n := n) (gs := gs)) h
  rwa [one_thenP (hg g h)] at this
theorem Gen.times {n : Nat} {gs : List (List Int)} (hg : AllN n gs) {p q : List Int} (hp : Gen n gs p) (hq : Gen n gs q) : Gen n gs (thenP p q) := by
  induction hq with
  | one => rw [thenP_one (hp.perm hg)]; exact hp
  | mul hq hm ih =>
    rw [← thenP_assoc (hp.perm hg) (hq.perm hg)]
    exact .mul ih hm
theorem Gen.into {n : Nat} {gs hs : List (List Int)} (hg : AllN n gs) (h : ∀ g ∈ hs, Gen n gs g) {p : List Int} (hp : Gen n hs p) : Gen n gs p := by
  induction hp with
  | one => exact .one
  | mul _ hm ih => exact ih.times hg (h _ hm)
/-- the ordered list of all that is generated -/
def GenL (n : Nat) (gs L : List (List Int)) : Prop := StrictL cmpL L ∧ ∀ x, x ∈ L ↔ Gen n gs x
/-- more is generated than a number says -/
def Over (n : Nat) (gs : List (List Int)) (most : Nat) : Prop := ∃ E : List (List Int), E.Nodup ∧ (∀ x ∈ E, Gen n gs x) ∧ most < E.length
theorem Over.up {n : Nat} {gs hs : List (List Int)} {m : Nat} (h : ∀ g ∈ gs, g ∈ hs) (k : Over n gs m) : Over n hs m := by
  obtain ⟨E, h1, h2, h3⟩ := k
  exact ⟨E, h1, fun x hx => (h2 x hx).up h, h3⟩
/-- a set of permutations with all that it generates -/
def ClosedG (n : Nat) (L : List (List Int)) : Prop := ∀ x, Gen n L x → x ∈ L
theorem ClosedG.not_over {n : Nat} {L gs : List (List Int)} (h : ClosedG n L) (hs : ∀ g ∈ gs, g ∈ L) {m : Nat} (hm : L.length ≤ m) : ¬ Over n gs m := by
  rintro ⟨E, h1, h2, h3⟩
  have := h1.length_le_of_subset (l₂ := L) fun x hx => h x ((h2 x hx).up hs)
  omega
/-- generators that generate all of a list: they are a group's exactly if as many are generated -/
theorem closed_of {n : Nat} {L gs A : List (List Int)} (hL : StrictL cmpL L) (hg : AllN n gs) (hA : GenL n gs A) (hi : ∀ x ∈ L, x ∈ A) (hl : A.length ≤ L.length) : A = L ∧ ClosedG n L := by
  have hnd := strict_nodup cmpL_ord hL
  have hs : ∀ x ∈ A, x ∈ L := by
    intro x hx
    refine Classical.byContradiction fun hn => ?_
    have h1 : (x :: L).Nodup := List.nodup_cons.2 ⟨hn, hnd⟩
    have h2 := h1.length_le_of_subset (l₂ := A) fun y hy => by
      rcases List.mem_cons.1 hy with h | h
      · rw [h]; exact hx
      · exact hi y h
    rw [List.length_cons] at h2
    omega
  have e : A = L := strict_unique cmpL_ord hA.1 hL fun x => ⟨hs x, hi x⟩
  refine ⟨e, fun x hx => ?_⟩
  rw [← e]
  exact (hA.2 x).2 (hx.into hg fun g hgm => (hA.2 g).1 (hi g hgm))
theorem closed_all {n : Nat} {L gs A : List (List Int)} (hL : StrictL cmpL L) (hc : ClosedG n L) (hs : ∀ g ∈ gs, g ∈ L) (hA : GenL n gs A) (hi : ∀ x ∈ L, x ∈ A) : A = L :=
  strict_unique cmpL_ord hA.1 hL fun x => ⟨fun h => hc x (((hA.2 x).1 h).up hs), hi x⟩
/-- a list that is closed under generators from some place on holds all that they generate -/
theorem gen_all {n : Nat} {gs E : List (List Int)} (h0 : iotaP n ∈ E) (h1 : ∀ p ∈ E, ∀ g ∈ gs, thenP p g ∈ E) {x : List Int} (hx : Gen n gs x) : x ∈ E := by
  induction hx with
  | one => exact h0
  | mul _ hm ih => exact h1 _ ih _ hm
/-! the loop that gathers them -/
/-- E: gathered so far; the first k are done, and of the next one the first j products -/
structure Gath (n : Nat) (gs E : List (List Int)) (k j : Nat) : Prop where
  nd : E.Nodup
  gen : ∀ x ∈ E, Gen n gs x
  one : iotaP n ∈ E
  pos : k ≤ E.length
  done : ∀ i, i < k → ∀ g ∈ gs, thenP (row E i) g ∈ E
  next : ∀ i, i < j → thenP (row E k) (row gs i) ∈ E
theorem Gath.start (n : Nat) (gs : List (List Int)) : Gath n gs [iotaP n] 0 0 :=
  ⟨by simp, fun x hx => by rw [List.mem_singleton.1 hx]; exact .one, by simp, by simp, fun i h => by omega, fun i h => by omega⟩
theorem row_app {E F : List (List Int)} {i : Nat} (h : i < E.length) : row (E ++ F) i = row E i := by
  rw [row_get h, row_get (by rw [List.length_append]; omega), List.getElem_append_left h]
theorem Gath.old {n : Nat} {gs E : List (List Int)} {k j : Nat} (h : Gath n gs E k j) (hm : thenP (row E k) (row gs j) ∈ E) : Gath n gs E k (j + 1) :=
  ⟨h.nd, h.gen, h.one, h.pos, h.done, fun i hi => by
    rcases Nat.lt_succ_iff_lt_or_eq.1 hi with h' | h'
    · exact h.next i h'
    · rw [h']; exact hm⟩
theorem Gath.new {n : Nat} {gs E : List (List Int)} {k j : Nat} (h : Gath n gs E k j) (hk : k < E.length) (hj : j < gs.length) (hm : thenP (row E k) (row gs j) ∉ E) : Gath n gs (E ++ [thenP (row E k) (row gs j)]) k (j + 1) := by
  have hg : row gs j ∈ gs := by rw [row_get hj]; exact List.getElem_mem hj
  have he : row E k ∈ E := by rw [row_get hk]; exact List.getElem_mem hk
  refine ⟨?_, fun x hx => ?_, List.mem_append_left _ h.one, by rw [List.length_append]; have := h.pos; omega, fun i hi g hgm => ?_, fun i hi => ?_⟩
  · rw [List.nodup_append]
    exact ⟨h.nd, by simp, fun a ha b hb => by rw [List.mem_singleton.1 hb]; rintro rfl; exact hm ha⟩
  · rcases List.mem_append.1 hx with hx | hx
    · exact h.gen x hx
    · rw [List.mem_singleton.1 hx]; exact .mul (h.gen _ he) hg
  · rw [row_app (by have := h.pos; omega)]
    exact List.mem_append_left _ (h.done i hi g hgm)
  · rw [row_app hk]
    rcases Nat.lt_succ_iff_lt_or_eq.1 hi with h' | h'
    · exact List.mem_append_left _ (h.next i h')
    · rw [h']; exact List.mem_append_right _ (by simp)
theorem Gath.turn {n : Nat} {gs E : List (List Int)} {k : Nat} (h : Gath n gs E k gs.length) (hk : k < E.length) : Gath n gs E (k + 1) 0 := by
  refine ⟨h.nd, h.gen, h.one, hk, fun i hi g hg => ?_, fun i hi => by omega⟩
  rcases Nat.lt_succ_iff_lt_or_eq.1 hi with h' | h'
  · exact h.done i h' g hg
  · subst h'
    obtain ⟨q, hq, rfl⟩ := List.mem_iff_getElem.1 hg
    have := h.next q hq
    rwa [row_get hq] at this
theorem Gath.all {n : Nat} {gs E : List (List Int)} (h : Gath n gs E E.length 0) {x : List Int} : x ∈ E ↔ Gen n gs x := by
  refine ⟨h.gen x, fun hx => gen_all h.one (fun p hp g hg => ?_) hx⟩
  obtain ⟨i, hi, rfl⟩ := List.mem_iff_getElem.1 hp
  have := h.done i hi g hg
  rwa [row_get hi] at this
theorem Gath.genL {n : Nat} {gs E : List (List Int)} (h : Gath n gs E E.length 0) : GenL n gs (setG cmpL E) := ⟨setG_strict cmpL_ord E, fun x => (setG_mem cmpL_ord E x).trans h.all⟩
theorem Gath.over {n : Nat} {gs E : List (List Int)} {k j m : Nat} (h : Gath n gs E k j) (hm : m < E.length) : Over n gs m := ⟨E, h.nd, h.gen, hm⟩
/-! the choice of generators -/
/-- gs are chosen among the first k of L; what they generate is A -/
structure Chose (n : Nat) (L gs A : List (List Int)) (k : Nat) : Prop where
  sub : ∀ g ∈ gs, g ∈ L
  all : GenL n gs A
  has : ∀ i, i < k → row L i ∈ A
theorem Chose.skip {n : Nat} {L gs A : List (List Int)} {k : Nat} (h : Chose n L gs A k) (hm : row L k ∈ A) : Chose n L gs A (k + 1) :=
  ⟨h.sub, h.all, fun i hi => by
    rcases Nat.lt_succ_iff_lt_or_eq.1 hi with h' | h'
    · exact h.has i h'
    · rw [h']; exact hm⟩
theorem Chose.take {n : Nat} {L gs A B : List (List Int)} {k : Nat} (h : Chose n L gs A k) (hk : k < L.length) (hL : AllN n L) (hB : GenL n (gs ++ [row L k]) B) : Chose n L (gs ++ [row L k]) B (k + 1) := by
  have hr : row L k ∈ L := by rw [row_get hk]; exact List.getElem_mem hk
  have hs : ∀ g ∈ gs ++ [row L k], g ∈ L := fun g hg => by
    rcases List.mem_append.1 hg with hg | hg
    · exact h.sub g hg
    · rw [List.mem_singleton.1 hg]; exact hr
  refine ⟨hs, hB, fun i hi => ?_⟩
  rw [hB.2]
  rcases Nat.lt_succ_iff_lt_or_eq.1 hi with h' | h'
  · exact ((h.all.2 _).1 (h.has i h')).up fun g hg => List.mem_append_left _ hg
  · rw [h']; exact Gen.of_mem (fun g hg => hL g (hs g hg)) (List.mem_append_right _ (by simp))
theorem Chose.mem {n : Nat} {L gs A : List (List Int)} (h : Chose n L gs A L.length) : ∀ x ∈ L, x ∈ A := fun x hx => by
  obtain ⟨i, hi, rfl⟩ := List.mem_iff_getElem.1 hx
  have := h.has i hi
  rwa [row_get hi] at this
/-- a valid group -/
structure GroupOk (d : Int) (L : List (List Int)) : Prop where
  d1 : 1 ≤ d
  d2 : d ≤ 32
  l1 : 1 ≤ L.length
  l2 : L.length ≤ 720
  perm : AllN d.toNat L
  up : StrictL cmpL L
  closed : ClosedG d.toNat L
end Go.Proofs.YtemdjochphehjaaGreat
/- Groups, the program's keys of permutations and its set of keys. No condition beyond those stated. -/
namespace Go.Proofs.YtemdjochphehjaaGreat
open Go.RowKit Go.Maps

/-! keys -/
def Small (p : List Int) : Prop := ∀ x ∈ p, 0 ≤ x ∧ x ≤ 255
theorem strOfNums_inj {p q : List Int} (hp : Small p) (hq : Small q) (h : strOfNums p = strOfNums q) : p = q := by
  have h1 : p.map (fun n => UInt8.ofNat n.toNat) = q.map (fun n => UInt8.ofNat n.toNat) := by
    rw [← strOfNums_data, ← strOfNums_data, h]
  have hl : p.length = q.length := by have := congrArg List.length h1; simpa using this
  refine List.ext_getElem hl fun i h2 h3 => ?_
  have h4 : (p.map (fun n => UInt8.ofNat n.toNat))[i]'(by simpa using h2) = (q.map (fun n => UInt8.ofNat n.toNat))[i]'(by simpa using h3) := by simp only [h1]
  simp only [List.getElem_map] at h4
  have h5 := hp p[i] (List.getElem_mem h2)
  have h6 := hq q[i] (List.getElem_mem h3)
  have h7 := congrArg UInt8.toNat h4
  rw [UInt8.toNat_ofNat', UInt8.toNat_ofNat'] at h7
  omega
theorem PermN.small {n : Nat} {p : List Int} (h : PermN n p) (hn : n ≤ 256) : Small p := fun x hx => by
  obtain ⟨j, hj, rfl⟩ := List.mem_iff_getElem.1 hx
  have := h.2.bd j hj
  rw [nth_get hj, h.1] at this
  omega
/-! a set of keys in memory -/
theorem byte_info : (Tryz.prog.info? 5).map (fun i => (i.zero, i.size, i.bytes)) = some (some (.int .u8 0), 1, 1) := by kernel_rfl
def SeenM (w : World) (b m : Nat) (S : List ByteArray) : Prop := ∃ D : DataW Unit, w.ownsMap Tryz.prog 9 (plainElem Tryz.prog 4) b m D ∧ ∀ s : ByteArray, D.atKey (.string s.data.toList) (.lit (.bool false)) = .lit (.bool (tB (s ∈ S)))
theorem seen_law : Keyed Tryz.prog 9 := string_keyed Tryz.underlying9
theorem zero_bool (w : World) : (zeroValue 4).run Tryz.prog w = .ok (.bool false) w := by kernel_rfl
theorem plainElem_bool_inv {P : Program} {e : TypeId} (he : P.underlying e = some .bool) {v : Value} {z : DataW Unit × List MemPlace} (h : plainElem P e v = some z) : ∃ x, v = .bool x ∧ z = (.lit (.bool x), []) := by
  unfold plainElem at h
  rw [he] at h
  cases v <;> simp at h
  subst h
  exact ⟨_, rfl, rfl⟩
theorem SeenM.made (w : World) : SeenM (w.alloc (.map #[] 0)) w.heap.size 0 [] := by
  refine ⟨_, World.ownsMap_made w _ _ _, fun s => ?_⟩
  rw [tB_no (by simp)]
  rfl
theorem SeenM.kept {w w' : World} {b m : Nat} {S : List ByteArray} {row : Option Nat} (h : SeenM w b m S) (hg : w.grownBy w' row) (hne : some b ≠ row) : SeenM w' b m S := by
  obtain ⟨D, h1, h2⟩ := h
  exact ⟨D, h1.kept hg hne, h2⟩
theorem SeenM.below {w w' : World} {b m : Nat} {S : List ByteArray} (h : SeenM w b m S) (hb : Below w.heap.size w w') : SeenM w' b m S := h.kept (grownBy_of_below hb none) (by simp)
theorem SeenM.lt {w : World} {b m : Nat} {S : List ByteArray} (h : SeenM w b m S) : b < w.heap.size := by
  obtain ⟨D, h1, _⟩ := h
  exact h1.lt
theorem data_inj {s t : ByteArray} (h : s.data.toList = t.data.toList) : s = t := by
  cases s; cases t
  simp only at h
  congr 1
  exact Array.toList_inj.1 h
section
variable {ops : Array Oper} {rest : List Oper} {o : Oper} {a : Act} {Q : Exit → Act → World → Prop}
theorem wpList_seen (w : World) (hg : o.guard = none) (m x : Operand) (hop : o.op = Op.lookup 211 m x false) (b k : Nat) (S : List ByteArray) (hm : a.eval m = .map (some b)) (hown : SeenM w b k S) (s : ByteArray) (hs : s.size ≤ maxLen) (hx : a.eval x = .string s)
    (hK : wpList Tryz.prog ops Q rest (a.put o.dst (.bool (tB (s ∈ S)))) w) : wpList Tryz.prog ops Q (o :: rest) a w := by
  obtain ⟨D, h1, h2⟩ := hown
  refine wpList_plain hg fun K' hK' => ?_
  obtain ⟨v, ps, hrun, hv⟩ := h1.lookup seen_law Tryz.underlying211 (zero_bool w) (plainElem_bool Tryz.underlying4 false) (WideMaps.keyOf_string_mk Tryz.underlying9 hs)
  obtain ⟨c, rfl, hc⟩ := plainElem_bool_inv Tryz.underlying4 hv
  simp only [Prod.mk.injEq] at hc
  rw [h2 s] at hc
  have e : tB (s ∈ S) = c := by
    have := hc.1
    simpa using this
  unfold Oper.wp
  simp [execOp, hop, hm, hx, hrun, Result.andThen]
  rw [← e]
  exact hK' _ _ hK
theorem SeenM.update {w : World} {b k : Nat} {S : List ByteArray} (h : SeenM w b k S) (hk : k < maxLen) {s : ByteArray} (hs : s.size ≤ maxLen) :
    ∃ w', (Instr.mapUpdate 211 (.map (some b)) (.string s) (.bool true)).run Tryz.prog w = .ok () w' ∧ SeenM w' b (k + 1) (s :: S) ∧ w.grownBy w' (some b) := by
  obtain ⟨D, h1, h2⟩ := h
  obtain ⟨w', hrun, r1, r2⟩ := h1.update seen_law Tryz.underlying211 hk (WideMaps.keyOf_string_mk Tryz.underlying9 hs) (plainElem_bool Tryz.underlying4 true)
  refine ⟨w', hrun, ⟨_, r1, fun t => ?_⟩, r2⟩
  have hm : IsMap D := by
    obtain ⟨es, clock, hb, F, _, rfl⟩ := h1
    exact ⟨_, rfl⟩
  by_cases e : t = s
  · subst e
    rw [tB_yes (by simp)]
    exact atKey_put_same hm (by simp [WideAt.IsKeyLit]) _ _
  · rw [atKey_put_other (fun e' => e (data_inj (by injection e'))), h2 t]
    rw [tB_congr (p := t ∈ S) (q := t ∈ s :: S) ⟨fun h => List.mem_cons_of_mem _ h, fun h => (List.mem_cons.1 h).resolve_left e⟩]
theorem wpList_see (w : World) (hg : o.guard = none) (m x v : Operand) (hop : o.op = Op.mapUpdate 211 m x v ∨ o.op = Op.insert 211 m x v) (b k : Nat) (S : List ByteArray) (hm : a.eval m = .map (some b)) (hown : SeenM w b k S) (hk : k < maxLen) (s : ByteArray) (hs : s.size ≤ maxLen) (hx : a.eval x = .string s) (hv : a.eval v = .bool true)
    (hK : ∀ w', SeenM w' b (k + 1) (s :: S) → w.grownBy w' (some b) → wpList Tryz.prog ops Q rest (a.put o.dst undef) w') : wpList Tryz.prog ops Q (o :: rest) a w := by
  refine wpList_plain hg fun K' hK' => ?_
  obtain ⟨w', hrun, r1, r2⟩ := hown.update hk hs
  unfold Oper.wp
  rcases hop with hop | hop
  · simp [execOp, hop, hm, hx, hv, hrun, Result.andThen]
    exact hK' _ _ (hK w' r1 r2)
  · simp [execOp, hop, hm, hx, hv, hrun, Result.andThen]
    exact hK' _ _ (hK w' r1 r2)
end
end Go.Proofs.YtemdjochphehjaaGreat
/- Groups: the identity on both sides, the program's key of a permutation. No condition beyond those stated. -/
namespace Go.Proofs.YtemdjochphehjaaGreat
open Go.RowKit Go.Maps

def bytesV (p : List Int) : List Value := p.map (Value.int .u8)
theorem bytesV_len (p : List Int) : (bytesV p).length = p.length := by simp [bytesV]
theorem bytesV_set (p : List Int) (k : Nat) (x : Int) : (bytesV p).set k (.int .u8 x) = bytesV (p.set k x) := by simp [bytesV, List.map_set]
theorem bytesV_at {p : List Int} {k : Nat} (h : k < p.length) : (bytesV p)[k]? = some (.int .u8 (nth p k)) := by
  unfold bytesV
  rw [List.getElem?_map, nth_some h]
  rfl
set_option maxHeartbeats 1000000 in
theorem keyOf_any (A : Option Addr) (n c : Nat) (p : List Int) (w : World) (ha : RI w A n p) (hp : Small p) (hn : n ≤ 1048576) :
    Calls Tryz.prog 203 #[.slice A n c] w (fun e w' => e = .returned (.string (strOfNums p)) ∧ Below w.heap.size w w') := by
  have hla := Lib.hid ha.len
  have HP := Lib.hid (fun k (hk : k < n) => show 0 ≤ nth p k ∧ nth p k ≤ 255 from hp _ (by rw [nth_get (by rw [hla.out]; exact hk)]; exact List.getElem_mem _))
  have hmk := run_make_row' (P := Tryz.prog) 234 5 (.int .u8 0) 1 Tryz.underlying234 byte_info rfl .i64 .i64 n (by omega) (by omega)
  have ho0 := OS.made w w.heap.size 5 (.int .u8 0) n (Nat.le_refl _) (by omega)
  rw [show List.replicate n (Value.int .u8 0) = bytesV (copied p (List.replicate n 0) 0) by rw [copied_zero]; simp [bytesV]] at ho0
  have hb0 := below_alloc w (.cells (madeCells #[.int .u8 0] n) 5)
  clear hp
  go_enter Tryz.func203, Tryz.ntmps203
  go_wp2
  go_loopw [4, 11] (fun _ i wr => ∃ k : Nat, k ≤ n ∧ i = .int .i64 k ∧ OS wr w.heap.size 5 1 (some ⟨w.heap.size, 0, none⟩) n n (bytesV (copied p (List.replicate n 0) k)) ∧ Below w.heap.size w wr) (fun _ i _ => n - (intOf i).toNat)
  case atStart => exact ⟨0, Nat.zero_le _, rfl, ho0, hb0⟩
  case round =>
    clear ho0 hb0 hmk
    obtain ⟨k, hk, rfl, ho, hw⟩ := hrel
    have hlen := ho.len
    rw [bytesV_len] at hlen
    by_cases hlt : k < n
    · obtain ⟨a, rfl, hca, -⟩ := (ha.keep hw).get hlt
      have hbd := HP.out k hlt
      have hst := copied_step (xs := p) (zs := List.replicate n 0) (j := k) (by rw [hla.out]; exact hlt) (by simpa using hlt)
      obtain ⟨g, hg, cc, cf⟩ := ho.cell (bytesV_at (k := k) (by omega))
      cases hg
      have ho2 := ho.set k (.int .u8 (nth p k))
      rw [bytesV_set, hst] at ho2
      have hw2 := Below.setCell hw (p := ⟨w.heap.size, k, none⟩) (Nat.le_refl _) (.int .u8 (nth p k))
      generalize nth p k = x at *
      clear ho hw hst hlen
      go_wp2
      go_roundw
      case rel => exact ⟨k + 1, by omega, by go_num, ho2, hw2⟩
      case measure => simp [intOf]; omega
    · obtain rfl : k = n := by omega
      have hall := copied_all (xs := p) (zs := List.replicate k 0) (by rw [hla.out]; simp)
      rw [hla.out] at hall
      rw [hall] at ho
      have hcv := run_convert_bytes_arg (P := Tryz.prog) wr 234 5 Tryz.underlying234 Tryz.underlying5 w.heap.size 0 k k p hla.out (fun i hi => by
        obtain ⟨g, hg, cc, -⟩ := ho.cell (bytesV_at (k := i) (by rw [hla.out]; exact hi))
        cases hg
        rw [Nat.zero_add]; exact cc) 9 Tryz.underlying9
      go_wp2
      go_ret
      exact ⟨rfl, hw⟩
end Go.Proofs.YtemdjochphehjaaGreat
/- slices.BinarySearchFunc by slices.Compare on slices that only read. No condition beyond those stated. -/
namespace Go.Proofs.YtemdjochphehjaaGreat
open Go.RowKit

def BsTo (zss : List (List Int)) (x : List Int) (lo hi : Nat) : Prop := (∀ i, i < lo → cmpL (row zss i) x < 0) ∧ ∀ i, hi ≤ i → i < zss.length → ¬ cmpL (row zss i) x < 0
theorem row_strict {zss : List (List Int)} (hs : StrictL cmpL zss) {i j : Nat} (hij : i < j) (hj : j < zss.length) : cmpL (row zss i) (row zss j) < 0 := by
  rw [row_get (by omega), row_get hj]
  exact List.pairwise_iff_getElem.1 hs i j (by omega) hj hij
theorem bsTo_low {zss : List (List Int)} {x : List Int} (hs : StrictL cmpL zss) {lo hi m : Nat} (h : BsTo zss x lo hi) (hm : m < zss.length) (hc : cmpL (row zss m) x < 0) : BsTo zss x (m + 1) hi := by
  refine ⟨fun i hi' => ?_, h.2⟩
  rcases Nat.lt_succ_iff_lt_or_eq.1 hi' with h' | h'
  · have h1 := row_strict hs h' hm
    exact cmpL_ord.lt_trans h1 (by omega)
  · rw [h']; exact hc
theorem bsTo_high {zss : List (List Int)} {x : List Int} (hs : StrictL cmpL zss) {lo hi m : Nat} (h : BsTo zss x lo hi) (hm : m < zss.length) (hc : ¬ cmpL (row zss m) x < 0) : BsTo zss x lo m := by
  refine ⟨h.1, fun i h1 h2 h3 => ?_⟩
  rcases Nat.eq_or_lt_of_le h1 with rfl | h'
  · exact hc h3
  · have h4 := row_strict hs h' h2
    exact hc (cmpL_ord.lt_trans h4 (by omega))
theorem bsTo_end {zss : List (List Int)} {x : List Int} {k : Nat} (hs : StrictL cmpL zss) (h : BsTo zss x k k) : (k < zss.length ∧ cmpL (row zss k) x = 0) ↔ x ∈ zss := by
  constructor
  · rintro ⟨h1, h2⟩
    rw [← cmpL_ord.eq_of h2, row_get h1]
    exact List.getElem_mem h1
  · intro hx
    obtain ⟨j, hj, rfl⟩ := List.mem_iff_getElem.1 hx
    have hjj : cmpL (row zss j) zss[j] = 0 := by rw [row_get hj]; exact cmpL_ord.self _
    have h1 : ¬ j < k := fun hh => by have := h.1 j hh; omega
    by_cases e : j = k
    · subst e; exact ⟨hj, hjj⟩
    · exfalso
      have h2 : k < j := by omega
      have h3 := row_strict hs h2 hj
      have h4 := h.2 k (Nat.le_refl _) (by omega)
      rw [row_get hj] at h3
      exact h4 h3
set_option maxRecDepth 100000 in
set_option maxHeartbeats 2000000 in
theorem binSearch_any (A : Option Addr) (n c : Nat) (zss : List (List Int)) (X : Option Addr) (p q : Nat) (x : List Int) (w : World) (ha : RR w A n zss) (hn : n ≤ 1048576) (hx : RI w X p x) (hp : p ≤ q) (hq : q ≤ 9223372036854775807) (hs : StrictL cmpL zss) :
    Calls Tryz.prog 173 #[.slice A n c, .slice X p q, .func (.func 120) #[] #[]] w (fun e w' => ∃ k : Nat, e = .returned (.tuple #[.int .i64 k, .bool (tB (x ∈ zss))]) ∧ w = w') := by
  have eg : ∀ (args : Array Value) (w : World), (callFunc 120 args).run Tryz.prog w = .ok (.enter 120 args) w := fun _ _ => by kernel_rfl
  have hla := Lib.hid ha.len
  have HS := Lib.hid hs
  clear hs
  go_enter Tryz.func173, Tryz.ntmps173
  go_wp2
  go_loopw [9, 10] (fun l h wr => ∃ (lo hi : Nat), lo ≤ hi ∧ hi ≤ n ∧ l = .int .i64 lo ∧ h = .int .i64 hi ∧ w = wr ∧ BsTo zss x lo hi) (fun l h _ => (intOf h).toNat - (intOf l).toNat)
  case atStart => exact ⟨0, n, Nat.zero_le _, Nat.le_refl _, rfl, rfl, by trivial, fun i h => by omega, fun i h1 h2 => by rw [hla.out] at h2; omega⟩
  case round =>
    obtain ⟨lo, hi, hlh, hhn, rfl, rfl, rfl, hto⟩ := hrel
    by_cases hlt : lo < hi
    · obtain ⟨m, hm⟩ : ∃ m : Nat, (lo + hi) / 2 = m := ⟨_, rfl⟩
      have hm1 : lo ≤ m ∧ m < hi := by omega
      have hmn : m < n := by omega
      obtain ⟨a, Y, p1, q1, rfl, hca, hp1, hq1, hri⟩ := ha.get hmn
      have hcmp := slicesCompare_any Y X p1 p q1 q _ x w hri hx (by omega) (by omega)
      have hbd := cmpL_bd (row zss m) x
      have HM := Lib.hid (show m < zss.length by rw [hla.out]; exact hmn)
      by_cases h1 : cmpL (row zss m) x < 0
      · have HT := Lib.hid (bsTo_low HS.out hto HM.out h1)
        generalize cmpL (row zss m) x = s at *
        clear hto hri
        go_wp2_with fail
        refine hcmp.mono ?_
        rintro e w1 ⟨rfl, rfl⟩
        clear hcmp
        go_wp2
        go_roundw
        case rel => exact ⟨m + 1, hi, by omega, hhn, by go_num, rfl, by trivial, HT.out⟩
        case measure => simp [intOf]; omega
      · have HT := Lib.hid (bsTo_high HS.out hto HM.out h1)
        generalize cmpL (row zss m) x = s at *
        clear hto hri
        go_wp2_with fail
        refine hcmp.mono ?_
        rintro e w1 ⟨rfl, rfl⟩
        clear hcmp
        go_wp2
        go_roundw
        case rel => exact ⟨lo, m, by omega, by omega, rfl, by go_num, by trivial, HT.out⟩
        case measure => simp [intOf]; omega
    · obtain rfl : lo = hi := by omega
      have HE := Lib.hid (bsTo_end HS.out hto)
      clear hto
      by_cases hl : lo < n
      · obtain ⟨a, Y, p1, q1, rfl, hca, hp1, hq1, hri⟩ := ha.get hl
        have hcmp := slicesCompare_any Y X p1 p q1 q _ x w hri hx (by omega) (by omega)
        have hbd := cmpL_bd (row zss lo) x
        have HL := Lib.hid (show lo < zss.length by rw [hla.out]; exact hl)
        have HF := Lib.hid (show tB (x ∈ zss) = decide (cmpL (row zss lo) x = 0) by
          by_cases h0 : cmpL (row zss lo) x = 0
          · rw [tB_yes (HE.out.1 ⟨HL.out, h0⟩)]; simp [h0]
          · rw [tB_no (fun hm => h0 (HE.out.2 hm).2)]; simp [h0])
        generalize cmpL (row zss lo) x = s at *
        go_wp2_with fail
        refine hcmp.mono ?_
        rintro e w1 ⟨rfl, rfl⟩
        clear hcmp
        go_wp2
        go_ret2
        refine ⟨lo, ?_, rfl⟩
        rw [HF.out]
        by_cases h0 : s = 0
        · subst h0; rfl
        · have e1 : (s == 0) = false := by simpa using h0
          simp [h0, e1]
      · have HF := Lib.hid (show tB (x ∈ zss) = false from tB_no fun hm => hl (by have := (HE.out.2 hm).1; rw [hla.out] at this; exact this))
        go_wp2
        go_ret2
        exact ⟨lo, by rw [HF.out]; rfl, rfl⟩
end Go.Proofs.YtemdjochphehjaaGreat
