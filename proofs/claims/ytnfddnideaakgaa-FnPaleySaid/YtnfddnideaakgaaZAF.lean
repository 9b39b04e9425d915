/- Permutations and squares: whether lists are such, the reference's side. No condition beyond those stated. -/
import Derived.Test.YtnfddnideaakgaaZAD
import Derived.Test.YtnfddnideaakgaaZAE
import Derived.Test.YtnfddnideaakgaaZAB
set_option linter.unusedVariables false
set_option linter.unusedSimpArgs false
namespace Go.Proofs.Ytnfddnideaakgaa
open Go.RowKit

theorem RI.take {w : World} {A : Option Addr} {n k : Nat} {zs : List Int} (h : RI w A n zs) (hk : k ≤ n) : RI w A k (zs.take k) :=
  ⟨by rw [List.length_take, h.len]; omega, fun j x hx => by
    rw [List.getElem?_take] at hx
    split at hx
    · exact RS.at_ h j x hx
    · cases hx⟩
theorem nth_take {zs : List Int} {k j : Nat} (h : j < k) : nth (zs.take k) j = nth zs j := by
  simp [nth, List.getD, List.getElem?_take, h]
def noneTo' (zs : List Int) (x : Int) (k : Nat) : Prop := ∀ j, j < k → nth zs j ≠ x
set_option maxHeartbeats 400000 in
theorem l00Has_any (A : Option Addr) (n c : Nat) (zs : List Int) (x : Int) (w : World) (ha : RI w A n zs) (hn : n ≤ 9223372036854775807) :
    Calls Try.prog 72 #[.slice A n c, .int .i64 x] w fun e w' => e = .returned (.bool (tB (x ∈ zs))) ∧ w = w' := by
  have hla := Lib.hid ha.len
  go_enter Try.func72, Try.ntmps72
  go_wp2
  go_loop [5] (fun i => ∃ k : Nat, k ≤ n ∧ i = .int .i64 k ∧ noneTo' zs x k) (fun i => n - (intOf i).toNat)
  case atStart => exact ⟨0, Nat.zero_le _, rfl, fun _ h => absurd h (by omega)⟩
  case round =>
    obtain ⟨k, hk, rfl, hno⟩ := hrel
    by_cases hlt : k < n
    · obtain ⟨a, rfl, hca, hia⟩ := ha.get hlt
      by_cases he : nth zs k = x
      · have he' : (nth zs k == x) = true := by simp [he]
        have H := Lib.hid (show tB (x ∈ zs) = true from tB_yes (by rw [← he]; exact nth_mem (by rw [hla.out]; exact hlt)))
        clear he hno
        go_wp2
        go_ret
        exact ⟨by rw [H.out]; rfl, rfl⟩
      · have he' : (nth zs k == x) = false := by simp [he]
        have H := Lib.hid (show noneTo' zs x (k + 1) from fun j hj => by
          rcases Nat.lt_succ_iff_lt_or_eq.1 hj with h' | h'
          · exact hno j h'
          · rw [h']; exact he)
        clear he hno
        go_wp2
        go_round
        case rel => exact ⟨k + 1, by omega, by go_num, H.out⟩
        case measure => simp [intOf]; omega
    · have H := Lib.hid (show tB (x ∈ zs) = false from tB_no fun hm => by
        obtain ⟨j, hj, e⟩ := mem_nth hm
        exact hno j (by rw [hla.out] at hj; omega) e)
      clear hno
      go_wp2
      go_ret
      exact ⟨by rw [H.out]; rfl, rfl⟩
def permTo (p : List Int) (k : Nat) : Prop := (∀ j, j < k → 0 ≤ nth p j ∧ nth p j < p.length) ∧ ∀ i j, i < j → j < k → nth p i ≠ nth p j
theorem permTo_step {p : List Int} {k : Nat} (h : permTo p k) (hk : k < p.length) (h1 : 0 ≤ nth p k ∧ nth p k ≤ (p.length : Int) - 1) (h2 : nth p k ∉ p.take k) : permTo p (k + 1) :=
  ⟨fun j hj => by
    rcases Nat.lt_succ_iff_lt_or_eq.1 hj with h' | h'
    · exact h.1 j h'
    · rw [h']; omega,
   fun i j hij hj => by
    rcases Nat.lt_succ_iff_lt_or_eq.1 hj with h' | h'
    · exact h.2 i j hij h'
    · rw [h'] at hij ⊢
      intro e
      refine h2 ?_
      rw [← e, ← nth_take (k := k) hij]
      exact nth_mem (by rw [List.length_take]; omega)⟩
end Go.Proofs.Ytnfddnideaakgaa
/- Appending to memory of a call's own, for this program's slices of numbers and of such slices. No condition beyond those stated. -/
namespace Go.Proofs.Ytnfddnideaakgaa
open Go.RowKit

section
variable {w w' : World} {B : Nat} {e2 e1 : TypeId} {A : Option Addr} {n c : Nat} {vs : List Sl} {zss : List (List Int)}
/-- a further row, in a block of its own, behind the append's law -/
theorem ORv.push' (h : ORv w B e2 e1 A n c vs zss) {v : Sl} {z : List Int} (ho : OI w B e1 v.1 v.2.1 v.2.2 z) (hap : ∀ (j : Nat) (u : Sl), vs[j]? = some u → apart u v)
    {A' : Option Addr} {c' : Nat} (hg : w.grownBy w' (blk A)) (hos : OS w' B e2 1 A' (n + 1) c' (vs.map slv ++ [.slice v.1 v.2.1 v.2.2])) : ORv w' B e2 e1 A' (n + 1) c' (vs ++ [v]) (zss ++ [z]) := by
  have hvA : blk v.1 = none ∨ blk v.1 ≠ blk A := OS.typed ho.os h.os (fun e => h.ne e.symm)
  refine ⟨by simpa [slv] using hos, by simp [h.len], fun j u y hu hy => ?_, fun i j u x hij hu hx => ?_, h.ne⟩
  · rw [List.getElem?_append] at hu hy
    rw [h.len] at hu
    split at hu
    · rename_i hj
      rw [if_pos hj] at hy
      exact (h.rows j u y hu hy).kept hg (h.outer_row hu)
    · rename_i hj
      rw [if_neg hj] at hy
      have e : j - zss.length = 0 := by
        have := (List.getElem?_eq_some_iff.1 hu).1
        simp at this; omega
      rw [e] at hu hy
      simp at hu hy
      subst hu; subst hy
      exact ho.kept hg hvA
  · rw [List.getElem?_append] at hu hx
    split at hu
    · split at hx
      · exact h.sep i j u x hij hu hx
      · have : x = v := by
          have := List.mem_of_getElem? hx
          simpa using this
        subst this
        exact hap i u hu
    · have hu' : u = v := by
        have := List.mem_of_getElem? hu
        simpa using this
      subst hu'
      split at hx
      · exact (hap j x hx).symm
      · rename_i h1 h2
        have a1 := (List.getElem?_eq_some_iff.1 hu).1
        have a2 := (List.getElem?_eq_some_iff.1 hx).1
        simp at a1 a2
        omega
end
section
variable {ops : Array Oper} {rest : List Oper} {o : Oper} {a : Act} {Q : Exit → Act → World → Prop}
/-- one number more -/
theorem app_int (w : World) (hgd : o.guard = none) (s x : Operand) (ho : o.op = .call { callee := .builtin .append, args := #[s, x], argTypes := #[23, 23] })
    (B : Nat) (A : Option Addr) (n c : Nat) (zs : List Int) (hs : a.eval s = .slice A n c) (hown : OI w B 2 A n c zs) (u : Int) (g : Nat) (hx : a.eval x = .slice (some ⟨g, 0, none⟩) 1 1) (hgx : g = w.heap.size)
    (hu : I64 u) (hbig : n + 1 ≤ 2199023255552) (hB : B ≤ w.heap.size)
    (h : ∀ A' c' w', OI w' B 2 A' (n + 1) c' (zs ++ [u]) → w.grownBy w' (blk A) → (blk A' = blk A ∨ ∃ k, blk A' = some k ∧ w.heap.size ≤ k) → wpList Try.prog ops Q rest (a.put o.dst (.slice A' (n + 1) c')) w') :
    wpList Try.prog ops Q (o :: rest) a (w.alloc (.cells #[.int .i64 u] 2)) :=
  wpList_app1' w hgd s x 23 ho 2 (.int .i64 0) 8 Try.underlying23 int_info rfl (by omega) B A n c (ints zs) hs hown.os (.int .i64 u) g hx hgx rfl hbig hB
    fun A' c' w' h1 h2 h3 => h A' c' w' (OI.snoc h1 hown.all hu) h2 h3
/-- the numbers of another slice -/
theorem app_ints (w : World) (hgd : o.guard = none) (s x : Operand) (ho : o.op = .call { callee := .builtin .append, args := #[s, x], argTypes := #[23, 23] })
    (B : Nat) (A : Option Addr) (n c : Nat) (zs : List Int) (hs : a.eval s = .slice A n c) (hown : OI w B 2 A n c zs) (A2 : Option Addr) (m c2 : Nat) (ys : List Int) (hx : a.eval x = .slice A2 m c2) (hr : RI w A2 m ys)
    (hbig : n + m ≤ 2199023255552) (hB : B ≤ w.heap.size)
    (h : ∀ A' c' w', OI w' B 2 A' (n + m) c' (zs ++ ys) → w.grownBy w' (blk A) → (blk A' = blk A ∨ blk A' = some w.heap.size) → wpList Try.prog ops Q rest (a.put o.dst (.slice A' (n + m) c')) w') :
    wpList Try.prog ops Q (o :: rest) a w :=
  wpList_app w hgd s x 23 ho 2 (.int .i64 0) 1 8 Try.underlying23 int_info rfl (by omega) (by omega) B A n c (ints zs) hs hown.os A2 m c2 (ints ys) hx (by have := hr.len; simp [ints, this]) hr.news (ints_oneCell ys) hbig hB
    fun A' c' w' h1 h2 h3 => h A' c' w' (OI.cat h1 hown.all hr.all64) h2 h3
/-- one row more: the row's block lies apart from all others -/
theorem app_row (w : World) (hgd : o.guard = none) (s x : Operand) (ho : o.op = .call { callee := .builtin .append, args := #[s, x], argTypes := #[29, 29] })
    (B : Nat) (A : Option Addr) (n c : Nat) (vs : List Sl) (zss : List (List Int)) (hs : a.eval s = .slice A n c) (hown : ORv w B 23 2 A n c vs zss) (v : Sl) (z : List Int) (hv : OI w B 2 v.1 v.2.1 v.2.2 z) (hap : ∀ (j : Nat) (u : Sl), vs[j]? = some u → apart u v)
    (g : Nat) (hx : a.eval x = .slice (some ⟨g, 0, none⟩) 1 1) (hgx : g = w.heap.size) (hbig : n + 1 ≤ 2199023255552) (hB : B ≤ w.heap.size)
    (h : ∀ A' c' w', ORv w' B 23 2 A' (n + 1) c' (vs ++ [v]) (zss ++ [z]) → w.grownBy w' (blk A) → (blk A' = blk A ∨ ∃ k, blk A' = some k ∧ w.heap.size ≤ k) → wpList Try.prog ops Q rest (a.put o.dst (.slice A' (n + 1) c')) w') :
    wpList Try.prog ops Q (o :: rest) a (w.alloc (.cells #[.slice v.1 v.2.1 v.2.2] 23)) :=
  wpList_app1' w hgd s x 29 ho 23 (.slice none 0 0) 24 Try.underlying29 ints_info rfl (by omega) B A n c (vs.map slv) hs hown.os (.slice v.1 v.2.1 v.2.2) g hx hgx rfl hbig hB
    fun A' c' w' h1 h2 h3 => h A' c' w' (ORv.push' hown hv hap h2 h1) h2 h3
end
end Go.Proofs.Ytnfddnideaakgaa
/- Pairs of points in blocks, and how often a point is in blocks: the reference's side. No condition beyond those stated. -/
namespace Go.Proofs.Ytnfddnideaakgaa
open Go.RowKit

/-- the number of blocks with two points -/
noncomputable def pairN (bs : List (List Int)) (a b : Int) : Nat := bs.countP fun r => tB (a ∈ r) && tB (b ∈ r)
noncomputable def prB (bs : List (List Int)) (a j : Nat) : List Int := (List.range j).map fun (d : Nat) => ((pairN bs (a : Int) ((a + 1 + d : Nat) : Int) : Nat) : Int)
noncomputable def prP (v : Nat) (bs : List (List Int)) (a : Nat) : List Int := (List.range a).flatMap fun a => prB bs a (v - a - 1)
theorem prB_step (bs : List (List Int)) (a j : Nat) : prB bs a (j + 1) = prB bs a j ++ [((pairN bs (a : Int) ((a + 1 + j : Nat) : Int) : Nat) : Int)] := by simp [prB, List.range_succ]
theorem prP_step (v : Nat) (bs : List (List Int)) (a : Nat) : prP v bs (a + 1) = prP v bs a ++ prB bs a (v - a - 1) := by simp [prP, List.range_succ, List.flatMap_append]
theorem pair_step {bs : List (List Int)} {a b : Int} {i : Nat} (h : i < bs.length) : (bs.take (i + 1)).countP (fun r => tB (a ∈ r) && tB (b ∈ r)) = (bs.take i).countP (fun r => tB (a ∈ r) && tB (b ∈ r)) + if tB (a ∈ row bs i) && tB (b ∈ row bs i) then 1 else 0 := by
  rw [List.take_succ_eq_append_getElem h, List.countP_append, ← row_get h]
  simp [List.countP_cons]
theorem pair_le (bs : List (List Int)) (a b : Int) : pairN bs a b ≤ bs.length := List.countP_le_length
theorem Blk.after' {w w' : World} {g B : Nat} {t e : TypeId} {cs : Array Value} {A : Option Addr} {n c : Nat} {zs : List Int} (h : Blk w g t cs) (hg : w.grownBy w' (blk A)) (ho : OI w B e A n c zs) (hne : e ≠ t := by decide) : Blk w' g t cs := by
  refine h.grown hg fun e' => ?_
  rcases ho.os.cases with ⟨rfl, _⟩ | ⟨g', cur, rfl, _, hg', _⟩
  · simp [blk] at e'
  · have : g = g' := by simpa [blk] using e'
    subst this
    unfold Blk at h
    rw [h] at hg'
    injection hg' with hg'
    injection hg' with _ ht
    exact hne ht.symm
set_option maxRecDepth 100000 in
set_option maxHeartbeats 1000000 in
theorem l10Pairs_any (g v : Nat) (A : Option Addr) (n c : Nat) (bs : List (List Int)) (w : World) (hB : Blk w g 32 #[.int .i64 (v : Int), .slice A n c]) (ha : RR w A n bs) (hv : v ≤ 32) (hn : n ≤ 128) :
    Calls Try.prog 56 #[.pointer (some ⟨g, 0, none⟩)] w (RetI w 2 (prP v bs v)) := by
  have hla := Lib.hid ha.len
  have ho0 : OI (w.alloc (.cells #[] 2)) w.heap.size 2 (some ⟨w.heap.size, 0, none⟩) 0 0 (prP v bs 0) := by simpa [ints, prP] using OI.lit w w.heap.size 2 [] (Nat.le_refl _) (by simp) (by simp [All64])
  have hb0 := below_alloc w (.cells #[] 2)
  have hX0 := hB.after hb0
  go_enter Try.func56, Try.ntmps56
  go_wp2
  go_loopw [3, 4] (fun ov av wr => ∃ (a : Nat) (O : Option Addr) (k oc : Nat), a ≤ v ∧ av = .int .i64 a ∧ ov = .slice O k oc ∧ k ≤ 32 * a ∧ OI wr w.heap.size 2 O k oc (prP v bs a) ∧ Below w.heap.size w wr ∧ Blk wr g 32 #[.int .i64 (v : Int), .slice A n c]) (fun _ av _ => v - (intOf av).toNat)
  case atStart => exact ⟨0, _, 0, 0, Nat.zero_le _, rfl, rfl, Nat.le_refl _, ho0, hb0, hX0⟩
  case round =>
    clear ho0 hb0 hX0
    obtain ⟨a, O, k, oc, hav, rfl, rfl, hk, ho, hw, X⟩ := hrel
    obtain ⟨x0, x1⟩ := X.cells2
    by_cases hlt : a < v
    · go_wp2
      clear x0 x1
      go_loopw [3, 5] (fun ov bv wr => ∃ (j : Nat) (O : Option Addr) (k oc : Nat), a + 1 + j ≤ v ∧ bv = .int .i64 ((a + 1 + j : Nat) : Int) ∧ ov = .slice O k oc ∧ k ≤ 32 * a + j ∧ OI wr w.heap.size 2 O k oc (prP v bs a ++ prB bs a j) ∧ Below w.heap.size w wr ∧ Blk wr g 32 #[.int .i64 (v : Int), .slice A n c]) (fun _ bv _ => v - (intOf bv).toNat)
      case atStart => exact ⟨0, O, k, oc, by omega, by go_num, rfl, by omega, by simpa [prB] using ho, hw, X⟩
      case round =>
        clear ho hw X hk
        obtain ⟨j, O, k, oc, hj, rfl, rfl, hk, ho, hw, X⟩ := hrel
        obtain ⟨x0, x1⟩ := X.cells2
        obtain ⟨y, hy⟩ : ∃ y, y = a + 1 + j := ⟨_, rfl⟩
        have HY := Lib.hid hy
        have HPB := Lib.hid (prB_step bs a j)
        rw [← hy] at hj HPB ⊢
        have hj31 : j ≤ 31 := by omega
        clear hy
        by_cases hly : y < v
        · have hr := ha.keep hw
          go_wp2
          go_loop [6, 7] (fun mv iv => ∃ i : Nat, i ≤ n ∧ iv = .int .i64 i ∧ mv = .int .i64 (((bs.take i).countP (fun r => tB ((a : Int) ∈ r) && tB ((y : Int) ∈ r)) : Nat) : Int)) (fun _ iv => n - (intOf iv).toNat)
          case atStart => exact ⟨0, Nat.zero_le _, rfl, by simp⟩
          case round =>
            obtain ⟨i, hi, rfl, rfl⟩ := hrel
            by_cases hlin : i < n
            · obtain ⟨ad, R, m, rc, rfl, cr, hm1, hm2, hri⟩ := hr.get hlin
              have HS := Lib.hid (pair_step (bs := bs) (a := (a : Int)) (b := (y : Int)) (i := i) (by rw [hla.out]; exact hlin))
              have hcn : (bs.take i).countP (fun r => tB ((a : Int) ∈ r) && tB ((y : Int) ∈ r)) ≤ 128 := Nat.le_trans List.countP_le_length (by rw [List.length_take]; omega)
              have hx1 := l00Has_any R m rc (row bs i) (a : Int) wr hri (by omega)
              have hx2 := l00Has_any R m rc (row bs i) (y : Int) wr hri (by omega)
              generalize hq2 : (bs.take (i + 1)).countP (fun r => tB ((a : Int) ∈ r) && tB ((y : Int) ∈ r)) = q2 at HS
              have HQ2 := Lib.hid hq2
              clear hq2
              generalize (bs.take i).countP (fun r => tB ((a : Int) ∈ r) && tB ((y : Int) ∈ r)) = q1 at *
              cases h1 : tB ((a : Int) ∈ row bs i) with
              | false =>
                rw [h1] at hx1 HS
                have HS3 : Hid (q2 = q1) := Lib.hid (by simpa using HS.out)
                clear h1 HS hx2
                go_wp2_with fail
                refine hx1.mono ?_
                rintro e w' ⟨rfl, rfl⟩
                go_wp2
                go_round
                case rel => exact ⟨i + 1, by omega, by go_num, by rw [HQ2.out, HS3.out]⟩
                case measure => simp [intOf]; omega
              | true =>
                cases h2 : tB ((y : Int) ∈ row bs i) with
                | false =>
                  rw [h1] at hx1 HS
                  rw [h2] at hx2 HS
                  have HS3 : Hid (q2 = q1) := Lib.hid (by simpa using HS.out)
                  clear h1 h2 HS
                  go_wp2_with fail
                  refine hx1.mono ?_
                  rintro e w' ⟨rfl, rfl⟩
                  go_wp2_with fail
                  refine hx2.mono ?_
                  rintro e w' ⟨rfl, rfl⟩
                  go_wp2
                  go_round
                  case rel => exact ⟨i + 1, by omega, by go_num, by rw [HQ2.out, HS3.out]⟩
                  case measure => simp [intOf]; omega
                | true =>
                  rw [h1] at hx1 HS
                  rw [h2] at hx2 HS
                  have HS3 : Hid (q2 = q1 + 1) := Lib.hid (by simpa using HS.out)
                  clear h1 h2 HS
                  go_wp2_with fail
                  refine hx1.mono ?_
                  rintro e w' ⟨rfl, rfl⟩
                  go_wp2_with fail
                  refine hx2.mono ?_
                  rintro e w' ⟨rfl, rfl⟩
                  go_wp2
                  go_round
                  case rel => exact ⟨i + 1, by omega, by go_num, by rw [HQ2.out, HS3.out]; go_num⟩
                  case measure => simp [intOf]; omega
            · obtain rfl : i = n := by omega
              have hcn : pairN bs (a : Int) (y : Int) ≤ 128 := Nat.le_trans (pair_le _ _ _) (by rw [hla.out]; omega)
              rw [show (bs.take i).countP (fun r => tB ((a : Int) ∈ r) && tB ((y : Int) ∈ r)) = pairN bs (a : Int) (y : Int) by rw [List.take_of_length_le (by rw [hla.out]; exact Nat.le_refl _)]; rfl]
              have hsz := hw.size
              generalize pairN bs (a : Int) (y : Int) = m at *
              clear hr
              go_wp2_with (at_builtin; refine app_int _ rfl (.tmp 58) (.tmp 60) rfl w.heap.size O k oc _ rfl ho (m : Int) wr.heap.size rfl rfl ⟨by omega, by omega⟩ (Nat.le_trans (Nat.succ_le_succ hk) (by omega)) hsz ?_; intro A4 c4 w4 ho4 hg4 hf4)
              have hw4 := below_own hw hg4 hsz (fun q hq => (ho.os.lt hq).1)
              have X4 := X.after' hg4 ho
              rw [List.append_assoc, ← HPB.out] at ho4
              clear ho hw X hg4 hf4
              go_roundw
              case rel => exact ⟨j + 1, A4, k + 1, c4, by have := HY.out; omega, by rw [HY.out]; go_num, rfl, by omega, ho4, hw4, X4⟩
              case measure => have := HY.out; simp [intOf]; omega
        · have hjn : j = v - a - 1 := by have := HY.out; omega
          rw [hjn, ← prP_step] at ho
          clear hjn
          go_wp2
          go_roundw
          case rel => exact ⟨a + 1, O, k, oc, by omega, by go_num, rfl, by omega, ho, hw, X⟩
          case measure => simp [intOf]; omega
    · obtain rfl : a = v := by omega
      go_wp2
      go_ret
      exact ⟨_, _, _, rfl, ho, hw⟩
end Go.Proofs.Ytnfddnideaakgaa
