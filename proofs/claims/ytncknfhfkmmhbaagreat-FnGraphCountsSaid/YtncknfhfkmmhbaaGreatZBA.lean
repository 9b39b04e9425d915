/- slices.SortFunc by impl.compareEdges, on edges in a row that a call owns. No condition beyond those stated. -/
import Derived.Test.YtncknfhfkmmhbaaGreatZAZ
import Derived.Sort.OwnSortedInts
import Derived.Test.YtncknfhfkmmhbaaGreatZAO
import Derived.Test.YtncknfhfkmmhbaaGreatZAJ
import Derived.Deep.QuietTactic
import Derived.BigQuiet
set_option linter.unusedVariables false
set_option linter.unusedSimpArgs false
namespace Go.Proofs.YtncknfhfkmmhbaaGreat
open Go.RowKit Go.Sort

set_option maxHeartbeats 1000000 in
theorem compareEdges_grow (a b c d : Int) (w : World) :
    Calls Tryz.prog 51 #[.agg #[.int .i64 a, .int .i64 b], .agg #[.int .i64 c, .int .i64 d]] w fun e w' => e = .returned (.int .i64 (cmpE (a, b) (c, d))) ∧ ∃ q os, w' = grow (w.drewN q) os := by
  have X := (Blk.new w 48 #[.int .i64 a, .int .i64 b]).alloc (.cells #[.int .i64 c, .int .i64 d] 48)
  have Y : Blk ((w.alloc (.cells #[.int .i64 a, .int .i64 b] 48)).alloc (.cells #[.int .i64 c, .int .i64 d] 48)) (w.heap.size + 1) 48 #[.int .i64 c, .int .i64 d] := by
    have := Blk.new (w.alloc (.cells #[.int .i64 a, .int .i64 b] 48)) 48 #[.int .i64 c, .int .i64 d]
    simpa using this
  have H := Lib.hid (show orI (sgnI a c) (sgnI b d) = cmpE (a, b) (c, d) from rfl)
  go_enter Tryz.func51, Tryz.ntmps51
  go_wp2
  generalize hW : (w.alloc (.cells #[.int .i64 a, .int .i64 b] 48)).alloc (.cells #[.int .i64 c, .int .i64 d] 48) = W at *
  obtain ⟨x0, x1⟩ := X.cells2
  obtain ⟨y0, y1⟩ := Y.cells2
  go_region_held3 (fun w' => Below W.heap.size W w' ∧ w'.cell? ⟨w.heap.size, 0, none⟩ = some (.int .i64 a) ∧ w'.cell? ⟨w.heap.size, 1, none⟩ = some (.int .i64 b) ∧ w'.cell? ⟨w.heap.size + 1, 0, none⟩ = some (.int .i64 c) ∧ w'.cell? ⟨w.heap.size + 1, 1, none⟩ = some (.int .i64 d))
    (first | exact keep4 (below_drewn _ 1) x0 x1 y0 y1 | exact keep4 ((below_alloc W _).trans (below_drewn' _ _ 1)) x0 x1 y0 y1)
    (first
      | (go_at_call 44; (with_reducible refine (cmpCompare_any a c _).mono ?_); rintro e w2 ⟨rfl, rfl⟩)
      | (go_at_call 44; (with_reducible refine (cmpCompare_any b d _).mono ?_); rintro e w2 ⟨rfl, rfl⟩)
      | (go_at_call 80; (with_reducible refine (cmpOr_any _ _ (sgnI a c) (sgnI b d) _ ?_ ?_).mono ?_); (exact Blk.cell (Blk.new _ _ _) 0); (exact Blk.cell (Blk.new _ _ _) 1); rintro e w3 ⟨rfl, rfl⟩))
  subst hW
  go_wp2
  go_ret
  exact ⟨by rw [← H.out]; rfl, 1, _, by simp only [alloc_eq_grow]; rw [grow_grow, grow_grow, drew_grow]; rfl⟩
def encE (e : Ed) : List Value := [.int .i64 e.1, .int .i64 e.2]
theorem flatK_ecells (es : List Ed) : flatK encE 2 es.toArray = (ecells es).toArray := by
  apply Array.ext
  · simp [ecells_len]
  · intro t h1 h2
    have ht : t < es.length * 2 := by simpa using h1
    have h3 := get_flatK encE 2 es.toArray t (by simpa using ht)
    rw [getElem!_pos (flatK encE 2 es.toArray) t h1] at h3
    rw [h3]
    have hd : t / 2 < es.length := by omega
    have h4 := ecells_at (List.getElem?_eq_getElem hd)
    rw [getElem!_pos es.toArray (t / 2) (by simpa using hd)]
    rcases Nat.mod_two_eq_zero_or_one t with e | e
    · have e1 : t / 2 * 2 = t := by omega
      rw [e1] at h4
      rw [e]
      have := (List.getElem?_eq_some_iff.1 h4.1).2
      simp only [List.getElem_toArray]
      rw [this]
      rfl
    · have e1 : t / 2 * 2 + 1 = t := by omega
      rw [e1] at h4
      rw [e]
      have := (List.getElem?_eq_some_iff.1 h4.2).2
      simp only [List.getElem_toArray]
      rw [this]
      rfl
section
variable {w : World} {B : Nat} {e : TypeId} {g n c k : Nat} {xs ys : List Value}
theorem holds_of_osK (h : OS w B e k (some ⟨g, 0, none⟩) n c xs) : Holds id w g 0 xs.toArray := fun j hj => by
  have hj' : j < xs.length := by simpa using hj
  obtain ⟨g', e1, hc, hf⟩ := h.cell (j := j) (u := xs[j]) (by simp [hj'])
  injection e1 with e1
  injection e1 with e1
  subst e1
  rw [Nat.zero_add]
  exact ⟨by rw [hc]; simp [hj'], hf⟩
theorem grownBy_sortedK {m : Nat} {os : Array Obj} (d : Array Value) : w.grownBy (sortWorld id w g 0 m d os) (some g) := by
  refine ⟨rfl, rfl, rfl, by simp [sortWorld, grow, putRow, mapBlock, Sort.ahead], fun k hk hne => ?_⟩
  unfold sortWorld
  rw [heap_grow_old _ _ (by simpa [putRow, mapBlock, Sort.ahead] using hk)]
  have : g ≠ k := fun e => hne (by rw [e])
  simp [putRow, mapBlock, Sort.ahead, Array.getElem?_modify, this]
theorem os_sortedK {m : Nat} {os : Array Obj} (h : OS w B e k (some ⟨g, 0, none⟩) n c xs) (hl : ys.length = xs.length) : OS (sortWorld id w g 0 m ys.toArray os) B e k (some ⟨g, 0, none⟩) n c ys := by
  have hlen := h.len
  rcases h.cases with ⟨h0, _⟩ | ⟨g', cur, h0, hB, hg, hnc, hc, hs, ht⟩
  · cases h0
  · injection h0 with h0
    injection h0 with h0
    subst h0
    have hgl : g < w.heap.size := (Array.getElem?_eq_some_iff.1 hg).1
    have hblk : (sortWorld id w g 0 m ys.toArray os).heap[g]? = some (.cells (putCells id 0 ys.toArray cur) e (0, 0)) := by
      unfold sortWorld
      rw [heap_grow_old _ _ (by simpa [putRow, mapBlock, Sort.ahead] using hgl)]
      simp [putRow, mapBlock, Sort.ahead, Array.getElem?_modify, hg, onCells]
    have hnk : n * k ≤ c * k := Nat.mul_le_mul_right k hnc
    refine ⟨by rw [hl, hlen], .inr ⟨g, c, _, rfl, hB, hblk, hnc, hc, by simp [putCells, hs], ?_⟩⟩
    apply List.ext_getElem?
    intro j
    by_cases hj : j < n * k
    · rw [List.getElem?_take_of_lt hj, Array.getElem?_toList]
      simp [putCells, show j < ys.length by omega, show j < cur.size by omega]
    · rw [List.getElem?_take_eq_none (by omega), List.getElem?_eq_none (by omega)]
end
theorem ltE (x y : Ed) : ltOf cmpE x y = decide (cmpE x y < 0) := rfl
theorem swoE : SWO (ltOf cmpE) where
  irrefl := fun x => by rw [ltE, cmpE_ord.self]; rfl
  trans := fun x y z h1 h2 => by
    rw [ltE, decide_eq_true_iff] at *
    exact cmpE_ord.lt_trans h1 h2
  ntrans := fun x y z h1 h2 => by
    rw [ltE, decide_eq_false_iff_not] at *
    have a := cmpE_ord.swap x y
    have b := cmpE_ord.swap y z
    have c := cmpE_ord.swap x z
    have := cmpE_ord.trans (x := z) (y := y) (z := x) (by omega) (by omega)
    omega
theorem cmpLaysE (w : World) (g n : Nat) : CmpLays Tryz.prog 51 #[] encE 2 cmpE g 0 n w := fun _ _ _ _ x y => compareEdges_grow x.1 x.2 y.1 y.2 _
set_option maxHeartbeats 1000000 in
theorem sortE_any (B n c : Nat) (A : Option Addr) (zs : List Ed) (w : World) (ho : OE w B 48 A n c zs) (hn : n ≤ 1048576) :
    Calls Tryz.prog 124 #[.slice A n c, .func (.func 51) #[] #[]] w (fun e w' => ∃ Y, e = .returned (.tuple #[]) ∧ OE w' B 48 A n c Y ∧ Y.Perm zs ∧ SortedL cmpE Y ∧ w.grownBy w' (blk A)) := by
  have hlen := ho.len
  have eg : ∀ (args : Array Value) (w : World), (callFunc 51 args).run Tryz.prog w = .ok (.enter 51 args) w := fun _ _ => by kernel_rfl
  rcases ho.os.cases with ⟨rfl, rfl, rfl, _⟩ | ⟨g, cur, rfl, hB, hg, _⟩
  · refine (AnyF.slices_SortFunc_none Tryz.sreL none 0 (.func (.func 51) #[] #[]) w).mono ?_
    rintro e w' ⟨he, rfl⟩
    obtain rfl : zs = [] := List.eq_nil_of_length_eq_zero hlen
    exact ⟨[], he, ho, List.Perm.refl _, List.Pairwise.nil, World.grownBy.refl _ _⟩
  · have hgl : g < w.heap.size := (Array.getElem?_eq_some_iff.1 hg).1
    have hs : zs.toArray.size = n := by simpa using hlen
    have hH : HoldsK encE 2 w g 0 zs.toArray := by
      unfold HoldsK
      rw [flatK_ecells]
      exact holds_of_osK ho.os
    have hcall := AnyQ.slices_SortFunc Tryz.sreL 2 (fun _ => by kernel_rfl) (fun _ => by kernel_rfl) encE (fun _ => rfl) (fun x v hv => by simp [encE] at hv; rcases hv with rfl | rfl <;> rfl) cmpE swoE 51 #[] g 0 c zs.toArray w eg (by rw [hs]; exact cmpLaysE w g n) hH hgl (by rw [hs]; omega)
    rw [hs] at hcall
    refine hcall.mono ?_
    rintro e w' ⟨he, d', m, os, hp, hsd, rfl⟩
    obtain ⟨hp1, hp2, hp3⟩ := hp
    have hd : d'.size = n := by rw [hp1, hs]
    have hperm : d'.toList.Perm zs := by
      have e1 : (d'.extract 0 n).toList = d'.toList := by
        rw [show d'.extract 0 n = d' by rw [← hd]; simp]
      have e2 : (zs.toArray.extract 0 n).toList = zs := by
        rw [show zs.toArray.extract 0 n = zs.toArray by rw [← hs]; simp]
      rwa [e1, e2] at hp3
    have ew : sortWorldK encE 2 w g 0 m d' os = sortWorld id w g 0 m (ecells d'.toList).toArray os := by
      have := flatK_ecells d'.toList
      rw [Array.toArray_toList] at this
      unfold sortWorldK putRowK sortWorld
      rw [this]
    rw [ew]
    refine ⟨d'.toList, he, ⟨os_sortedK ho.os (by rw [ecells_len, ecells_len, hperm.length_eq]), fun e he => ho.all e (hperm.mem_iff.1 he)⟩, hperm, ?_, grownBy_sortedK _⟩
    rw [SortedL, List.pairwise_iff_getElem]
    intro i j hi hj hij
    have h1 := hsd i j (Nat.zero_le _) hij (by simpa [hd] using hj)
    have hi' : i < d'.size := by simpa using hi
    have hj' : j < d'.size := by simpa using hj
    rw [getElem!_pos d' i hi', getElem!_pos d' j hj', ltE, decide_eq_false_iff_not] at h1
    have := cmpE_ord.swap d'[j] d'[i]
    simp only [Array.getElem_toList]
    omega
end Go.Proofs.YtncknfhfkmmhbaaGreat
/- slices.Compact on numbers that a call owns. No condition beyond those stated. -/
namespace Go.Proofs.YtncknfhfkmmhbaaGreat
open Go.RowKit

def noneSame (zs : List Int) (k : Nat) : Prop := ∀ (i : Nat), i + 1 < k → nth zs (i + 1) ≠ nth zs i
theorem noneSame_step {zs : List Int} {k : Nat} (h : noneSame zs k) (hk : 0 < k) (hne : nth zs k ≠ nth zs (k - 1)) : noneSame zs (k + 1) := fun i hi => by
  rcases Nat.lt_succ_iff_lt_or_eq.1 hi with h1 | h1
  · exact h i h1
  · have e : i = k - 1 := by omega
    subst e
    rw [show k - 1 + 1 = k by omega]
    exact hne
theorem noneSame_comp {zs : List Int} (h : noneSame zs zs.length) : comp zs = zs := comp_same fun k hk => by
  have := h k hk
  rwa [nth_get hk, nth_get (by omega)] at this
/-- the state behind the first repetition, in words of nth -/
theorem compT_start {zs : List Int} {k : Nat} (h : noneSame zs (k + 1)) (hk : k + 1 < zs.length) (he : nth zs (k + 1) = nth zs k) : CompT zs zs (k + 1) (k + 1 + 1) := by
  rw [nth_get hk, nth_get (by omega)] at he
  refine CompT.start hk (fun i hi hd => ?_) he
  have := h i (by omega)
  rwa [nth_get hd, nth_get (by omega)] at this
theorem compT_nth {d z : List Int} {k j i : Nat} (h : CompT d z k j) (hi : j ≤ i + 1) : nth z i = nth d i := by
  unfold nth List.getD
  rw [h.rest i hi]
theorem compT_same {d z : List Int} {k j : Nat} (h : CompT d z k (j + 1)) (hj : j + 1 < d.length) (he : nth d (j + 1) = nth d j) : CompT d z k (j + 1 + 1) := by
  rw [nth_get hj, nth_get (by omega)] at he
  exact h.same hj he
theorem compT_new {d z : List Int} {k j : Nat} (h : CompT d z k (j + 1)) (hj : j + 1 < d.length) (he : nth d (j + 1) ≠ nth d j) : CompT d (z.set k (nth d (j + 1))) (k + 1) (j + 1 + 1) := by
  rw [nth_get hj, nth_get (by omega)] at he
  rw [nth_get hj]
  exact h.new hj he
set_option maxRecDepth 100000 in
set_option maxHeartbeats 2000000 in
theorem compactI_any (B : Nat) (A : Option Addr) (n c : Nat) (zs : List Int) (w : World) (ho : OI w B 2 A n c zs) (hn : n ≤ 1048576) :
    Calls Tryz.prog 107 #[.slice A n c] w (fun e w' => ∃ m, e = .returned (.slice A m c) ∧ OI w' B 2 A m c (comp zs) ∧ w.grownBy w' (blk A)) := by
  have hla := Lib.hid ho.len
  have hcap := ho.os.cap
  have hz0 : ∀ w, (zeroValue 2).run Tryz.prog w = .ok (.int .i64 0) w := fun _ => by kernel_rfl
  by_cases h2 : n < 2
  · have HC := Lib.hid (comp_short (l := zs) (by rw [hla.out]; exact h2))
    clear hz0
    go_enter Tryz.func107, Tryz.ntmps107
    go_wp2
    go_ret
    exact ⟨n, rfl, by rw [HC.out]; exact ho, World.grownBy.refl _ _⟩
  · obtain ⟨g, rfl, hgB, hgl⟩ := ho.os.form (by omega)
    go_enter Tryz.func107, Tryz.ntmps107
    go_wp2
    go_loopw [3] (fun i wr => ∃ k : Nat, k + 1 ≤ n ∧ i = .int .i64 ((k + 1 : Nat) : Int) ∧ Drawn w wr ∧ noneSame zs (k + 1)) (fun i _ => n - (intOf i).toNat)
    case atStart => exact ⟨0, by omega, rfl, Drawn.refl _, fun i hi => by omega⟩
    case round =>
      obtain ⟨k, hk, rfl, hd, hs⟩ := hrel
      by_cases hlt : k + 1 < n
      · have hod : OI wr B 2 (some ⟨g, 0, none⟩) n c zs := by obtain ⟨q, rfl⟩ := hd; exact ho.drewN q
        obtain ⟨g1, e1, hc1, hf1, hi1⟩ := hod.cell (k := k + 1) hlt
        obtain ⟨g2, e2, hc0, hf0, hi0⟩ := hod.cell (k := k) (by omega)
        injection e1 with e1; injection e1 with e1; subst e1
        injection e2 with e2; injection e2 with e2; subst e2
        by_cases he : nth zs (k + 1) = nth zs k
        · have HT := Lib.hid (compT_start hs (by rw [hla.out]; exact hlt) he)
          have he' : (nth zs (k + 1) == nth zs k) = true := by simp [he]
          have hg0 : w.grownBy wr (some g) := by obtain ⟨q, rfl⟩ := hd; exact ⟨rfl, rfl, rfl, Nat.le_refl _, fun _ _ _ => rfl⟩
          clear he hs
          go_wp2
          go_quiet (fail)
          go_wp2
          have hod2 : OI (wr.drewN nq) B 2 (some ⟨g, 0, none⟩) n c zs := hod.drewN nq
          have hg2 : w.grownBy (wr.drewN nq) (some g) := ⟨hg0.os, hg0.tape, hg0.output, hg0.size, hg0.block⟩
          clear hod hg0 hc1 hc0 hf1 hf0
          generalize wr.drewN nq = wv at *
          clear hd
          go_loopw [3, 5] (fun t i w2 => ∃ (q j : Nat) (z : List Int), t = .int .i64 q ∧ i = .int .i64 ((j + 1 : Nat) : Int) ∧ k + 1 + (j + 1) ≤ n ∧ CompT zs z q (k + 1 + (j + 1)) ∧ OI w2 B 2 (some ⟨g, 0, none⟩) n c z ∧ w.grownBy w2 (some g)) (fun _ i _ => n - (intOf i).toNat)
          case atStart => exact ⟨k + 1, 0, zs, rfl, rfl, by omega, HT.out, hod2, hg2⟩
          case round =>
            clear hod2 hg2
            obtain ⟨q, j, z, rfl, rfl, hjn, hT, hoz, hgz⟩ := hrel
            have hqj := hT.kj
            by_cases hjl : k + 1 + (j + 1) < n
            · obtain ⟨g1, e1, hc1, hf1, hi1⟩ := hoz.cell (k := k + 1 + (j + 1)) hjl
              obtain ⟨g2, e2, hc0, hf0, hi0⟩ := hoz.cell (k := k + 1 + j) (by omega)
              obtain ⟨g3, e3, hcq, hfq, hiq⟩ := hoz.cell (k := q) (by omega)
              injection e1 with e1; injection e1 with e1; subst e1
              injection e2 with e2; injection e2 with e2; subst e2
              injection e3 with e3; injection e3 with e3; subst e3
              rw [compT_nth hT (by omega)] at hc1 hi1
              rw [compT_nth hT (by omega)] at hc0 hi0
              by_cases he : nth zs (k + 1 + (j + 1)) = nth zs (k + 1 + j)
              · have HT2 := Lib.hid (compT_same (j := k + 1 + j) hT (by rw [hla.out]; exact hjl) he)
                have he' : (nth zs (k + 1 + (j + 1)) != nth zs (k + 1 + j)) = false := by simp [he]
                have ho2 := fun t => hoz.drewN t
                have HO := Lib.hid ho2
                clear he hT ho2 hoz hcq hfq hiq
                go_wp2
                go_quiet (fail)
                go_wp2
                have ho3 := HO.out nq
                have hg3 : w.grownBy (wr.drewN nq) (some g) := ⟨hgz.os, hgz.tape, hgz.output, hgz.size, hgz.block⟩
                go_roundw
                case rel => exact ⟨q, j + 1, z, rfl, by go_num, by omega, HT2.out, ho3, hg3⟩
                case measure => simp [intOf]; omega
              · have HT2 := Lib.hid (compT_new (j := k + 1 + j) hT (by rw [hla.out]; exact hjl) he)
                have he' : (nth zs (k + 1 + (j + 1)) != nth zs (k + 1 + j)) = true := by simpa using he
                have ho2 := fun t => (hoz.drewN t).set q hi1
                have HO := Lib.hid ho2
                clear he hT ho2 hoz
                go_wp2
                go_quiet (fail)
                go_wp2
                have ho3 := HO.out nq
                have hg3 : w.grownBy ((wr.drewN nq).setCell ⟨g, q, none⟩ (.int .i64 (nth zs (k + 1 + (j + 1))))) (some g) := (show w.grownBy (wr.drewN nq) (some g) from ⟨hgz.os, hgz.tape, hgz.output, hgz.size, hgz.block⟩).trans grown_set
                go_roundw
                case rel => exact ⟨q + 1, j + 1, _, by go_num, by go_num, by omega, HT2.out, ho3, hg3⟩
                case measure => simp [intOf]; omega
            · have hend := CompT.done (k := q) (by rw [hla.out]; rwa [show k + 1 + (j + 1) = n by omega] at hT)
              have HE := Lib.hid hend
              have hq : q < n := by omega
              have hall := hoz.all
              have HAL := Lib.hid hall
              clear hT hend hall
              go_wp2_with (refine wpList_clear _ rfl (.tmp 56) 33 rfl 2 (.int .i64 0) Tryz.underlying33 hz0 rfl rfl B g q n (n - q) c (c - q) _ hoz.os rfl (by omega) (by omega) ?_; intro w5 ho5 hg5)
              have ho6 := OI.of_os ho5 HAL.out
              rw [HE.out.1] at ho6
              go_wp2
              go_ret
              exact ⟨q, rfl, ho6, hgz.trans hg5⟩
        · have HS := Lib.hid (noneSame_step (k := k + 1) hs (by omega) (by simpa using he))
          have he' : (nth zs (k + 1) == nth zs k) = false := by simp [he]
          clear he hs hod
          go_wp2
          go_quiet (fail)
          go_wp2
          go_roundw
          case rel => exact ⟨k + 1, by omega, by go_num, hd.more _, HS.out⟩
          case measure => simp [intOf]; omega
      · have HC := Lib.hid (noneSame_comp (zs := zs) (by rw [hla.out, show n = k + 1 by omega]; exact hs))
        have hod : OI wr B 2 (some ⟨g, 0, none⟩) n c zs := by obtain ⟨q, rfl⟩ := hd; exact ho.drewN q
        have hg0 : w.grownBy wr (some g) := by obtain ⟨q, rfl⟩ := hd; exact ⟨rfl, rfl, rfl, Nat.le_refl _, fun _ _ _ => rfl⟩
        clear hs
        go_wp2
        go_ret
        exact ⟨n, rfl, by rw [HC.out]; exact hod, hg0⟩
end Go.Proofs.YtncknfhfkmmhbaaGreat
/- slices.Compact on edges of which no two neighbors are alike. No condition beyond those stated. -/
namespace Go.Proofs.YtncknfhfkmmhbaaGreat
open Go.RowKit

theorem OE.drewN {w : World} {B : Nat} {ty : TypeId} {A : Option Addr} {n c : Nat} {es : List Ed} (h : OE w B ty A n c es) (q : Nat) : OE (w.drewN q) B ty A n c es := h.below (below_drewn w q)
set_option maxRecDepth 100000 in
set_option maxHeartbeats 2000000 in
theorem compactE_any (B : Nat) (A : Option Addr) (n c : Nat) (zs : List Ed) (w : World) (ho : OE w B 48 A n c zs) (hn : n ≤ 1048576) (hne : ∀ k, k + 1 < n → nthE zs (k + 1) ≠ nthE zs k) :
    Calls Tryz.prog 125 #[.slice A n c] w (fun e w' => e = .returned (.slice A n c) ∧ Drawn w w') := by
  have hla := Lib.hid ho.len
  have HN := Lib.hid hne; clear hne
  by_cases h2 : n < 2
  · go_enter Tryz.func125, Tryz.ntmps125
    go_wp2
    go_ret
    exact ⟨rfl, Drawn.refl _⟩
  · obtain ⟨g, rfl, hgB, hgl⟩ := ho.os.form (by omega)
    obtain ⟨ii, hi, hi0, hi1, hi2⟩ := info_parts edge_info
    go_enter Tryz.func125, Tryz.ntmps125
    go_wp2
    go_loopw [3] (fun i wr => ∃ k : Nat, k + 1 ≤ n ∧ i = .int .i64 ((k + 1 : Nat) : Int) ∧ Drawn w wr) (fun i _ => n - (intOf i).toNat)
    case atStart => exact ⟨0, by omega, rfl, Drawn.refl _⟩
    case round =>
      obtain ⟨k, hk, rfl, hd⟩ := hrel
      by_cases hlt : k + 1 < n
      · have hod : OE wr B 48 (some ⟨g, 0, none⟩) n c zs := by obtain ⟨q, rfl⟩ := hd; exact ho.drewN q
        obtain ⟨g1, e1, hc1, hd1, -, -, i1, i2⟩ := hod.cell (k := k + 1) hlt
        obtain ⟨g2, e2, hc0, hd0, -, -, i3, i4⟩ := hod.cell (k := k) (by omega)
        injection e1 with e1; injection e1 with e1; subst e1
        injection e2 with e2; injection e2 with e2; subst e2
        have he := HN.out k hlt
        generalize nthE zs (k + 1) = e1 at *
        generalize nthE zs k = e0 at *
        obtain ⟨x1, y1⟩ := e1
        obtain ⟨x0, y0⟩ := e0
        simp only at hc1 hd1 hc0 hd0 i1 i2 i3 i4
        clear hod
        go_wp2
        have hS : ∀ q, (wr.drewN q).cell? ⟨g, (k + 1) * 2, none⟩ = some (.int .i64 x1) ∧ (wr.drewN q).cell? ⟨g, (k + 1) * 2 + 1, none⟩ = some (.int .i64 y1) ∧ (wr.drewN q).cell? ⟨g, k * 2, none⟩ = some (.int .i64 x0) ∧ (wr.drewN q).cell? ⟨g, k * 2 + 1, none⟩ = some (.int .i64 y0) := fun q => ⟨hc1, hd1, hc0, hd0⟩
        have hS := hS 1
        have hkn : k < n := by omega
        have hwk : IntKind.i64.wrap (k : Int) = (k : Int) := by unfold IntKind.wrap IntKind.bits IntKind.signed; simp; omega
        have p0 : (0 : Int) ≤ (k : Int) + 1 := by omega
        refine wp_region_any (by kernel_rfl) (wpAny_of_held (S := fun w' => w'.cell? ⟨g, (k + 1) * 2, none⟩ = some (.int .i64 x1) ∧ w'.cell? ⟨g, (k + 1) * 2 + 1, none⟩ = some (.int .i64 y1) ∧ w'.cell? ⟨g, k * 2, none⟩ = some (.int .i64 x0) ∧ w'.cell? ⟨g, k * 2 + 1, none⟩ = some (.int .i64 y0)) _ _ _ _ ?_)
        refine wpAnyH_take (i := 0) (v := ?_) rfl (by kernel_rfl) (by kernel_rfl) (by kernel_rfl) (fun _ _ _ h => h) (Or.inl ⟨by rfl, ?_⟩) (by assumption) ?_
        rotate_left
        · (intro w hSw; (try dsimp only at hSw); go_simp; (try with_reducible rfl))
        simp only [Act.put, List.setIfInBounds_toArray, List.set_cons_zero, List.set_cons_succ]
        refine wpAnyH_take (i := 1) (v := ?_) rfl (by kernel_rfl) (by kernel_rfl) (by kernel_rfl) (fun _ _ _ h => h) (Or.inl ⟨by rfl, ?_⟩) (by assumption) ?_
        rotate_left
        · (intro w hSw; (try dsimp only at hSw); go_simp; (try with_reducible rfl))
        simp only [Act.put, List.setIfInBounds_toArray, List.set_cons_zero, List.set_cons_succ]
        refine wpAnyH_take (i := 2) (v := ?_) rfl (by kernel_rfl) (by kernel_rfl) (by kernel_rfl) (fun _ _ _ h => h) (Or.inl ⟨by rfl, ?_⟩) (by assumption) ?_
        rotate_left
        · (intro w hSw; (try dsimp only at hSw); go_simp; (try with_reducible rfl))
        simp only [Act.put, List.setIfInBounds_toArray, List.set_cons_zero, List.set_cons_succ]
        refine wpAnyH_take (i := 3) (v := ?_) rfl (by kernel_rfl) (by kernel_rfl) (by kernel_rfl) (fun _ _ _ h => h) (Or.inl ⟨by rfl, ?_⟩) (by assumption) ?_
        rotate_left
        · (intro w hSw; (try dsimp only at hSw); go_simp; (try with_reducible rfl))
        simp only [Act.put, List.setIfInBounds_toArray, List.set_cons_zero, List.set_cons_succ]
        refine wpAnyH_take (i := 4) (v := ?_) rfl (by kernel_rfl) (by kernel_rfl) (by kernel_rfl) (fun _ _ _ h => h) (Or.inl ⟨by rfl, ?_⟩) (by assumption) ?_
        rotate_left
        · (intro w hSw; (try dsimp only at hSw); go_simp; (try with_reducible rfl))
        simp only [Act.put, List.setIfInBounds_toArray, List.set_cons_zero, List.set_cons_succ]
        refine wpAnyH_take (i := 5) (v := ?_) rfl (by kernel_rfl) (by kernel_rfl) (by kernel_rfl) (fun _ _ _ h => h) (Or.inl ⟨by rfl, ?_⟩) (by assumption) ?_
        rotate_left
        · (intro w hSw; (try dsimp only at hSw); go_simp; (try with_reducible rfl))
        simp only [Act.put, List.setIfInBounds_toArray, List.set_cons_zero, List.set_cons_succ]
        refine wpAnyH_take (i := 6) (v := ?_) rfl (by kernel_rfl) (by kernel_rfl) (by kernel_rfl) (fun _ _ _ h => h) (Or.inl ⟨by rfl, ?_⟩) (by assumption) ?_
        rotate_left
        · (intro w hSw; (try dsimp only at hSw); go_simp; (try with_reducible rfl))
        simp only [Act.put, List.setIfInBounds_toArray, List.set_cons_zero, List.set_cons_succ]
        refine wpAnyH_take (i := 7) (v := ?_) rfl (by kernel_rfl) (by kernel_rfl) (by kernel_rfl) (fun _ _ _ h => h) (Or.inl ⟨by rfl, ?_⟩) (by assumption) ?_
        rotate_left
        · (intro w hSw; (try dsimp only at hSw); go_simp; (try with_reducible rfl))
        simp only [Act.put, List.setIfInBounds_toArray, List.set_cons_zero, List.set_cons_succ]
        refine wpAnyH_take (i := 8) (v := ?_) rfl (by kernel_rfl) (by kernel_rfl) (by kernel_rfl) (fun _ _ _ h => h) (Or.inl ⟨by rfl, ?_⟩) (by assumption) ?_
        rotate_left
        · (intro w hSw; (try dsimp only at hSw); go_simp; (try with_reducible rfl))
        simp only [Act.put, List.setIfInBounds_toArray, List.set_cons_zero, List.set_cons_succ]
        refine wpAnyH_take (i := 9) (v := .bool false) rfl (by kernel_rfl) (by kernel_rfl) (by kernel_rfl) (fun _ _ _ h => h) (Or.inl ⟨by rfl, ?_⟩) (by assumption) ?_
        · intro w hSw
          go_simp
          exact fun h1 h2 => he (by rw [h1, h2])
        simp only [Act.put, List.setIfInBounds_toArray, List.set_cons_zero, List.set_cons_succ, List.getElem_toArray, List.getElem_cons_succ, List.getElem_cons_zero]
        refine wpAnyH_done (by kernel_rfl) ?_ _
        clear hS p0 hkn hwk
        go_wp2
        go_roundw
        case rel => exact ⟨k + 1, by omega, by go_num, hd.more _⟩
        case measure => simp [intOf]; omega
      · go_wp2
        go_ret
        exact ⟨rfl, hd⟩
end Go.Proofs.YtncknfhfkmmhbaaGreat
/- impl.sortedEdges. No condition beyond those stated. -/
namespace Go.Proofs.YtncknfhfkmmhbaaGreat
open Go.RowKit

theorem RE.news {w : World} {A : Option Addr} {n : Nat} {es : List Ed} (h : RE w A n es) : ∀ (j : Nat) (u : Value), (ecells es)[j]? = some u → ∃ ad, A = some ad ∧ w.cell? (ad.add j) = some u := fun j u hu => by
  have hj : j < es.length * 2 := by have := (List.getElem?_eq_some_iff.1 hu).1; rwa [ecells_len] at this
  have hd : j / 2 < es.length := by omega
  have h4 := ecells_at (List.getElem?_eq_getElem hd)
  obtain ⟨g, o, ha, h1, h2, _⟩ := h.at_ (j / 2) _ (List.getElem?_eq_getElem hd)
  refine ⟨_, ha, ?_⟩
  have hadd : (⟨g, o, none⟩ : Addr).add j = ⟨g, o + j, none⟩ := by unfold Addr.add; split <;> simp_all
  rw [hadd]
  rcases Nat.mod_two_eq_zero_or_one j with e | e
  · have e1 : j / 2 * 2 = j := by omega
    rw [e1] at h4 h1
    rw [h4.1] at hu
    injection hu with hu
    rw [h1, hu]
  · have e1 : j / 2 * 2 + 1 = j := by omega
    rw [e1] at h4
    rw [Nat.add_assoc, e1] at h2
    rw [h4.2] at hu
    injection hu with hu
    rw [h2, hu]
theorem RE.lit1 (w : World) (ty : TypeId) (x y : Int) (hx : I64 x) (hy : I64 y) : RE (w.alloc (.cells #[.int .i64 x, .int .i64 y] ty)) (some ⟨w.heap.size, 0, none⟩) 1 [(x, y)] := by
  obtain ⟨h0, h1⟩ := (Blk.new w ty #[.int .i64 x, .int .i64 y]).cells2
  refine ⟨rfl, fun j e he => ?_⟩
  cases j with
  | zero =>
    simp at he
    subst he
    exact ⟨w.heap.size, 0, rfl, h0, h1, hx, hy⟩
  | succ j => simp at he
section
variable {ops : Array Oper} {rest : List Oper} {o : Oper} {a : Act} {Q : Exit → Act → World → Prop}
/-- the edges of another slice -/
theorem app_edges (w : World) (hgd : o.guard = none) (s x : Operand) (ho : o.op = .call { callee := .builtin .append, args := #[s, x], argTypes := #[34, 34] })
    (B : Nat) (A : Option Addr) (n c : Nat) (zs : List Ed) (hs : a.eval s = .slice A n c) (hown : OE w B 48 A n c zs) (A2 : Option Addr) (m c2 : Nat) (ys : List Ed) (hx : a.eval x = .slice A2 m c2) (hr : RE w A2 m ys) (hall : All64E ys)
    (hbig : n + m ≤ 2199023255552) (hB : B ≤ w.heap.size)
    (h : ∀ A' c' w', OE w' B 48 A' (n + m) c' (zs ++ ys) → w.grownBy w' (blk A) → (blk A' = blk A ∨ blk A' = some w.heap.size) → wpList Tryz.prog ops Q rest (a.put o.dst (.slice A' (n + m) c')) w') :
    wpList Tryz.prog ops Q (o :: rest) a w :=
  wpList_app w hgd s x 34 ho 48 (.agg #[.int .i64 0, .int .i64 0]) 2 16 Tryz.underlying34 edge_info rfl (by omega) (by omega) B A n c (ecells zs) hs hown.os A2 m c2 (ecells ys) hx (by rw [ecells_len, hr.len]) hr.news (ecells_one ys) hbig hB
    fun A' c' w' h1 h2 h3 => h A' c' w' ⟨by rw [ecells_app]; exact h1, fun e he => (List.mem_append.1 he).elim (hown.all e) (hall e)⟩ h2 h3
end
theorem sorted_setE {l m : List Ed} (hp : m.Perm l) (hs : SortedL cmpE m) (hn : l.Nodup) : m = setG cmpE l := by
  refine (setG_eq cmpE_ord ?_ fun x => hp.mem_iff).symm
  have hn' : m.Nodup := hp.nodup_iff.2 hn
  refine List.Pairwise.imp (fun {a b} h => ?_) (hs.and hn')
  have h0 : cmpE a b ≠ 0 := fun e => h.2 (cmpE_ord.eq_of e)
  have := h.1
  omega
def mmP (e : Ed) : Ed := mmE e.1 e.2
set_option maxRecDepth 100000 in
set_option maxHeartbeats 2000000 in
theorem sortedEdges_any (A : Option Addr) (n c : Nat) (zs : List Ed) (w : World) (hr : RE w A n zs) (hn : n ≤ 1048576) (hnd : (zs.map mmP).Nodup) :
    Calls Tryz.prog 119 #[.slice A n c] w (fun e w' => ∃ A' c', e = .returned (.slice A' n c') ∧ OE w' w.heap.size 48 A' n c' (setG cmpE (zs.map mmP)) ∧ Below w.heap.size w w') := by
  have hla := Lib.hid hr.len
  obtain ⟨ii, hi, hi0, hi1, hi2⟩ := info_parts edge_info
  have ho0 : OE w w.heap.size 48 none 0 0 ((zs.map mmP).take 0) := OE.nil_ _ _ _
  have HN := Lib.hid hnd; clear hnd
  have hb0 : Below w.heap.size w w := Below.refl _ _
  go_enter Tryz.func119, Tryz.ntmps119
  go_wp2
  go_loopw [3, 8] (fun v i wr => ∃ (k : Nat) (T : Option Addr) (q : Nat), k ≤ n ∧ i = .int .i64 k ∧ v = .slice T k q ∧ OE wr w.heap.size 48 T k q ((zs.map mmP).take k) ∧ Below w.heap.size w wr) (fun _ i _ => n - (intOf i).toNat)
  case atStart => exact ⟨0, _, _, Nat.zero_le _, rfl, rfl, ho0, hb0⟩
  case round =>
    clear ho0 hb0
    obtain ⟨k, T, q, hk, rfl, rfl, ho, hw⟩ := hrel
    by_cases hlt : k < n
    · obtain ⟨ge, oe, rfl, ce1, ce2, i1, i2⟩ := hr.get hlt
      have hst := Lib.hid (show (zs.map mmP).take (k + 1) = (zs.map mmP).take k ++ [mmP (nthE zs k)] by rw [List.take_succ_eq_append_getElem (by simp [hla.out]; exact hlt), List.getElem_map, nthE_get (by rw [hla.out]; exact hlt)])
      generalize nthE zs k = e at *
      obtain ⟨x, y⟩ := e
      simp only [mmP, mmE] at ce1 ce2 i1 i2 hst
      have c1 := below_cell hw ce1
      have c2 := below_cell hw ce2
      have E1 := Blk.new wr 48 #[.int .i64 x, .int .i64 y]
      obtain ⟨e1, e2⟩ := E1.cells2
      have hI1 : I64 (min x y) := ⟨by have := i1.1; have := i2.1; omega, by have := i1.2; have := i2.2; omega⟩
      have hI2 : I64 (max x y) := ⟨by have := i1.1; have := i2.1; omega, by have := i1.2; have := i2.2; omega⟩
      have L := RE.lit1 (wr.alloc (.cells #[.int .i64 x, .int .i64 y] 48)) 48 (min x y) (max x y) hI1 hI2
      have hs1 : (wr.alloc (.cells #[.int .i64 x, .int .i64 y] 48)).heap.size = wr.heap.size + 1 := by simp
      rw [hs1] at L
      have bb := (below_alloc wr (.cells #[.int .i64 x, .int .i64 y] 48)).trans ((below_alloc (wr.alloc (.cells #[.int .i64 x, .int .i64 y] 48)) (.cells #[.int .i64 (min x y), .int .i64 (max x y)] 48)).mono (by simp))
      have ho1 := ho.below bb
      have hw1 := hw.trans (bb.mono hw.size)
      clear ho hw bb hs1 E1
      go_wp2_with (at_builtin; refine app_edges _ rfl (.tmp 12) (.tmp 24) rfl w.heap.size T k q _ rfl ho1 (some ⟨wr.heap.size + 1, 0, none⟩) 1 1 [(min x y, max x y)] rfl L (fun e he => by simp at he; subst he; exact ⟨hI1, hI2⟩) (by omega) hw1.size ?_; intro A' c' w3 ho3 hg3 hn3)
      have hw3 := below_own hw1 hg3 hw1.size (fun b hb => (ho1.os.lt hb).1)
      rw [← hst.out] at ho3
      go_roundw
      case rel => exact ⟨k + 1, _, _, by omega, by go_num, rfl, ho3, hw3⟩
      case measure => simp [intOf]; omega
    · obtain rfl : k = n := by omega
      rw [List.take_of_length_le (by simp [hla.out])] at ho
      have hso := sortE_any w.heap.size k q T _ wr ho hn
      go_wp2_with (go_at_call 124; refine hso.mono ?_; rintro e w2 ⟨Y, rfl, hoY, hp, hsd, hg2⟩)
      have hw2 := below_own hw hg2 hw.size (fun b hb => (ho.os.lt hb).1)
      obtain rfl := sorted_setE hp hsd HN.out
      have hlY := hoY.len
      have hcp := compactE_any w.heap.size T k q _ w2 hoY hn (fun j hj => by
        have h1 := setG_strict cmpE_ord (zs.map mmP)
        have h2 := strict_nodup cmpE_ord h1
        rw [nthE_get (by omega), nthE_get (by omega)]
        intro e
        exact (List.pairwise_iff_getElem.1 h2 j (j + 1) (by omega) (by omega) (by omega)) e.symm)
      clear hso hp hsd hg2 ho hw
      go_wp2_with (go_at_call 125; refine hcp.mono ?_; rintro e w3 ⟨rfl, hd3⟩)
      go_ret
      exact ⟨_, _, rfl, hoY.below hd3.below, hw2.trans (hd3.below.mono hw2.size)⟩
end Go.Proofs.YtncknfhfkmmhbaaGreat
