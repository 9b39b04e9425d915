/- Rising lists of lists by putting: the reference's side. No condition beyond those stated. -/
import Derived.Test.YtncknfhfkmmhbaaGreatZBD
import Derived.Test.YtncknfhfkmmhbaaGreatZAN
import Derived.Test.YtncknfhfkmmhbaaGreatZAP
import Derived.Test.YtncknfhfkmmhbaaGreatZBA
import Derived.Test.YtncknfhfkmmhbaaGreatZAF
set_option linter.unusedVariables false
set_option linter.unusedSimpArgs false
namespace Go.Proofs.YtncknfhfkmmhbaaGreat
open Go.RowKit

/-- slices that read as lists, one by one -/
structure Rows (w : World) (vs : List Sl) (L : List (List Int)) : Prop where
  len : vs.length = L.length
  row : ∀ (j : Nat) (v : Sl) (z : List Int), vs[j]? = some v → L[j]? = some z → v.2.1 ≤ v.2.2 ∧ v.2.2 ≤ 9223372036854775807 ∧ RI w v.1 v.2.1 z
section
variable {w w' : World} {vs us : List Sl} {L M : List (List Int)}
theorem Rows.nil_ (w : World) : Rows w [] [] := ⟨rfl, fun _ _ _ h => by simp at h⟩
theorem Rows.keep (h : Rows w vs L) (hb : Below w.heap.size w w') : Rows w' vs L := ⟨h.len, fun j v z hv hz => let ⟨a, b, c⟩ := h.row j v z hv hz; ⟨a, b, c.keep hb⟩⟩
theorem Rows.snoc (h : Rows w vs L) {v : Sl} {z : List Int} (h1 : v.2.1 ≤ v.2.2) (h2 : v.2.2 ≤ 9223372036854775807) (h3 : RI w v.1 v.2.1 z) : Rows w (vs ++ [v]) (L ++ [z]) := by
  refine ⟨by simp [h.len], fun j u y hu hy => ?_⟩
  rw [List.getElem?_append] at hu hy
  rw [h.len] at hu
  split at hu
  · rename_i hj
    rw [if_pos hj] at hy
    exact h.row j u y hu hy
  · rename_i hj
    rw [if_neg hj] at hy
    have e : j - L.length = 0 := by have := (List.getElem?_eq_some_iff.1 hu).1; simp at this; omega
    rw [e] at hu hy
    simp at hu hy
    subst hu; subst hy
    exact ⟨h1, h2, h3⟩
theorem Rows.reads (h : Rows w vs L) {B : Nat} {e2 : TypeId} {A : Option Addr} {n c : Nat} (ho : OS w B e2 1 A n c (vs.map slv)) : RR w A n L := by
  have hl := ho.len
  simp at hl
  refine ⟨by rw [← h.len]; exact hl, fun j z hz => ?_⟩
  have hj : j < vs.length := by rw [h.len]; exact (List.getElem?_eq_some_iff.1 hz).1
  have hv := List.getElem?_eq_getElem hj
  obtain ⟨ad, ha, hc⟩ := ho.cells j (slv vs[j]) (by rw [List.getElem?_map, hv]; rfl)
  obtain ⟨h1, h2, h3⟩ := h.row j _ z hv hz
  exact ⟨ad, _, ha, hc, _, _, _, rfl, h1, h2, h3⟩
theorem row_some {zss : List (List Int)} {k : Nat} (h : k < zss.length) : zss[k]? = some (row zss k) := by rw [row_get h]; exact List.getElem?_eq_getElem h
end
section
variable {ops : Array Oper} {rest : List Oper} {o : Oper} {a : Act} {Q : Exit → Act → World → Prop}
/-- one slice more, whatever it reads as -/
theorem app_sl (w : World) (hgd : o.guard = none) (s x : Operand) (ho : o.op = .call { callee := .builtin .append, args := #[s, x], argTypes := #[46, 46] })
    (B : Nat) (A : Option Addr) (n c : Nat) (vs : List Sl) (hs : a.eval s = .slice A n c) (hown : OS w B 33 1 A n c (vs.map slv)) (v : Sl)
    (g : Nat) (hx : a.eval x = .slice (some ⟨g, 0, none⟩) 1 1) (hgx : g = w.heap.size) (hbig : n + 1 ≤ 2199023255552) (hB : B ≤ w.heap.size)
    (h : ∀ A' c' w', OS w' B 33 1 A' (n + 1) c' ((vs ++ [v]).map slv) → w.grownBy w' (blk A) → (blk A' = blk A ∨ ∃ k, blk A' = some k ∧ w.heap.size ≤ k) → wpList Tryz.prog ops Q rest (a.put o.dst (.slice A' (n + 1) c')) w') :
    wpList Tryz.prog ops Q (o :: rest) a (w.alloc (.cells #[.slice v.1 v.2.1 v.2.2] 33)) :=
  wpList_app1' w hgd s x 46 ho 33 (.slice none 0 0) 24 Tryz.underlying46 ints_info rfl (by omega) B A n c (vs.map slv) hs hown (.slice v.1 v.2.1 v.2.2) g hx hgx rfl hbig hB
    fun A' c' w' h1 h2 h3 => h A' c' w' (by simpa [slv] using h1) h2 h3
end
end Go.Proofs.YtncknfhfkmmhbaaGreat
/- slices.Clone on slices of numbers. No condition beyond those stated. -/
namespace Go.Proofs.YtncknfhfkmmhbaaGreat
open Go.RowKit

set_option maxHeartbeats 1000000 in
theorem cloneR_any (B0 g0 n c : Nat) (vs : List Sl) (zss : List (List Int)) (w : World) (ho : OS w B0 33 1 (some ⟨g0, 0, none⟩) n c (vs.map slv)) (hr : Rows w vs zss) (hb : ∀ v ∈ vs, ∀ b, blk v.1 = some b → b < w.heap.size) (hn : n ≤ 1048576) :
    Calls Tryz.prog 104 #[.slice (some ⟨g0, 0, none⟩) n c] w (fun e w' => ∃ g c', e = .returned (.slice (some ⟨g, 0, none⟩) n c') ∧ PV w' w.heap.size 33 g n c' (vs.zip zss) ∧ w.heap.size ≤ g ∧ g < w'.heap.size ∧ Below w.heap.size w w') := by
  have hlen : vs.length = n := by have := ho.len; simpa using this
  have hcap := ho.cap
  have ho0 : OS (w.alloc (.cells #[] 33)) w.heap.size 33 1 (some ⟨w.heap.size, 0, none⟩) 0 0 (([] : List Sl).map slv) := OS.lit w w.heap.size 33 1 0 #[] (Nat.le_refl _) rfl (by omega)
  have hb0 := below_alloc w (.cells #[] 33)
  have hos := ho.below hb0
  have hq := fun (wx : World) => Lib.run_eql_slice_nil (P := Tryz.prog) wx 46 33 (some ⟨g0, 0, none⟩) n c 0 0 Tryz.underlying46
  simp only [Option.isNone_some] at hq
  have HL := Lib.hid hlen
  clear hlen
  go_enter Tryz.func104, Tryz.ntmps104
  go_wp2_with (at_builtin; refine wpList_app _ rfl (.tmp 5) (.tmp 6) 46 rfl 33 (.slice none 0 0) 1 24 Tryz.underlying46 ints_info rfl (by omega) (by omega) w.heap.size _ 0 0 _ rfl ho0 _ n c (vs.map slv) rfl (by simp [HL.out]) (fun j u hu => hos.cells j u hu) (slv_oneCell vs) (by omega) (by simp) ?_; intro A' c' w' ho1 hg1 hn1)
  have hw' := below_own hb0 hg1 (by simp) (fun b hb => by simp [blk] at hb; omega)
  have hA : ∃ g, A' = some ⟨g, 0, none⟩ ∧ w.heap.size ≤ g ∧ g < w'.heap.size := by
    rcases ho1.cases with ⟨rfl, _⟩ | ⟨g, cur, rfl, h1, h2, _⟩
    · rcases hn1 with h | h <;> simp [blk] at h
    · exact ⟨g, rfl, h1, (Array.getElem?_eq_some_iff.1 h2).1⟩
  obtain ⟨g, rfl, hg1', hg2'⟩ := hA
  go_ret
  have hz : (0 : Nat) + n = n := by omega
  rw [hz] at ho1
  refine ⟨g, c', rfl, ⟨?_, fun p hp => ?_⟩, hg1', hg2', hw'⟩
  · have e : (vs.zip zss).map (fun p => slv p.1) = vs.map slv := by
      have : ((vs.zip zss).map Prod.fst).map slv = vs.map slv := by rw [List.map_fst_zip (by rw [hr.len]; exact Nat.le_refl _)]
      rw [← this, List.map_map]
      rfl
    rw [e]
    simpa using ho1
  · obtain ⟨v, z⟩ := p
    obtain ⟨j, hj, e⟩ := List.mem_iff_getElem.1 hp
    have hj' : j < vs.length ∧ j < zss.length := by simp at hj; omega
    rw [List.getElem_zip] at e
    injection e with e1 e2
    subst e1; subst e2
    obtain ⟨h1, h2, h3⟩ := hr.row j _ _ (List.getElem?_eq_getElem hj'.1) (List.getElem?_eq_getElem hj'.2)
    refine ⟨h1, h2, h3.keep hw', fun e => ?_⟩
    have := hb _ (List.getElem_mem hj'.1) _ e
    omega
end Go.Proofs.YtncknfhfkmmhbaaGreat
/- How many cells there are: the program's side. No condition beyond those stated. -/
namespace Go.Proofs.YtncknfhfkmmhbaaGreat
open Go.RowKit

theorem comp_srt (zs : List Int) : comp (srt zs) = setG sgnI zs := setG_comp sgnI_ord (srt_sorted zs) fun x => srt_mem zs x
set_option maxRecDepth 100000 in
set_option maxHeartbeats 1000000 in
theorem cellCount_any (A : Option Addr) (n c : Nat) (zs : List Int) (w : World) (ha : RI w A n zs) (hn : n ≤ 1048576) :
    Calls Tryz.prog 89 #[.slice A n c] w (fun e w' => e = .returned (.int .i64 (manyP zs)) ∧ Below w.heap.size w w') := by
  have hla := Lib.hid ha.len
  go_enter Tryz.func89, Tryz.ntmps89
  go_wp2_with fail
  refine (clone_any A n c zs w ha (by omega)).mono ?_
  rintro e w1 ⟨A1, n1, c1, rfl, ho1, hb1⟩
  obtain rfl : n1 = n := by rw [← ho1.len, hla.out]
  go_wp2_with fail
  refine (sort_any w.heap.size 2 A1 n1 c1 zs w1 ho1 (by omega)).mono ?_
  rintro e w2 ⟨rfl, ho2, hg2⟩
  have hw2 := below_own hb1 hg2 hb1.size (fun b hb => (ho1.os.lt hb).1)
  clear ho1 hb1 hg2
  go_wp2_with fail
  refine (compactI_any w.heap.size A1 n1 c1 (srt zs) w2 ho2 hn).mono ?_
  rintro e w3 ⟨m, rfl, ho3, hg3⟩
  have hw3 := below_own hw2 hg3 hw2.size (fun b hb => (ho2.os.lt hb).1)
  have hml := Lib.hid ho3.len
  clear ho2 hw2 hg3
  go_wp2
  go_ret
  exact ⟨ret_int (by unfold manyP; rw [← comp_srt, hml.out]), hw3⟩
end Go.Proofs.YtncknfhfkmmhbaaGreat
/- Insertion into numbers in order: the reference's sort. No condition beyond those stated. -/
namespace Go.Proofs.YtncknfhfkmmhbaaGreat
open Go.RowKit

/-! insertion -/
def insAt (L : List Int) (j : Nat) (x : Int) : List Int := L.take j ++ x :: L.drop j
theorem insAt_len {L : List Int} {j : Nat} {x : Int} (h : j ≤ L.length) : (insAt L j x).length = L.length + 1 := by simp [insAt]; omega
theorem insAt_at {L : List Int} {j : Nat} {x : Int} (h : j ≤ L.length) : nth (insAt L j x) j = x := by
  have hl : (L.take j).length = j := by rw [List.length_take]; omega
  unfold insAt nth
  rw [List.getD, List.getElem?_append_right (by omega), hl, Nat.sub_self]
  rfl
theorem insAt_lt {L : List Int} {j i : Nat} {x : Int} (h : j ≤ L.length) (hi : i < j) : nth (insAt L j x) i = nth L i := by
  have hl : (L.take j).length = j := by rw [List.length_take]; omega
  unfold insAt nth
  rw [List.getD, List.getElem?_append_left (by omega), List.getElem?_take, if_pos hi]
  rfl
theorem insAt_last (L : List Int) (x : Int) : insAt L L.length x = L ++ [x] := by simp [insAt]
theorem insAt_swap {L : List Int} {j : Nat} {x : Int} (h : j + 1 ≤ L.length) : ((insAt L (j + 1) x).set (j + 1) (nth L j)).set j x = insAt L j x := by
  have hl : (L.take j).length = j := by rw [List.length_take]; omega
  unfold insAt
  rw [List.take_succ_eq_append_getElem (by omega), List.append_assoc, List.set_append_right _ _ (by omega), hl, List.set_append_right _ _ (by omega), hl, List.drop_eq_getElem_cons (i := j) (by omega), nth_get (by omega)]
  simp
theorem insAt_perm (L : List Int) (j : Nat) (x : Int) : (insAt L j x).Perm (L ++ [x]) := by
  unfold insAt
  refine List.Perm.trans List.perm_middle ?_
  rw [List.take_append_drop]
  exact (List.perm_append_comm (l₁ := [x]) (l₂ := L))
theorem insAt_sorted {L : List Int} {j : Nat} {x : Int} (hs : L.Pairwise fun a b => a ≤ b) (h1 : ∀ y ∈ L.take j, y ≤ x) (h2 : ∀ y ∈ L.drop j, x ≤ y) : (insAt L j x).Pairwise fun a b => a ≤ b := by
  unfold insAt
  have hs' := hs
  rw [← List.take_append_drop j L] at hs'
  obtain ⟨a1, a2, a3⟩ := List.pairwise_append.1 hs'
  refine List.pairwise_append.2 ⟨a1, List.pairwise_cons.2 ⟨h2, a2⟩, fun a ha b hb => ?_⟩
  rcases List.mem_cons.1 hb with rfl | hb
  · exact h1 a ha
  · exact a3 a ha b hb
theorem take_le {L : List Int} {j : Nat} {x : Int} (hs : L.Pairwise fun a b => a ≤ b) (hj : j + 1 ≤ L.length) (h : nth L j ≤ x) : ∀ y ∈ L.take (j + 1), y ≤ x := fun y hy => by
  rw [List.take_succ_eq_append_getElem (by omega)] at hy
  rcases List.mem_append.1 hy with hy | hy
  · obtain ⟨i, hi, rfl⟩ := List.mem_iff_getElem.1 hy
    have hij : i < j := by rw [List.length_take] at hi; omega
    have := List.pairwise_iff_getElem.1 hs i j (by omega) (by omega) hij
    rw [List.getElem_take]
    rw [nth_get (by omega)] at h
    omega
  · rw [List.mem_singleton.1 hy, ← nth_get (by omega)]
    exact h
/-- x has gone down to place j among numbers in order -/
def Sunk (L : List Int) (j : Nat) (x : Int) : Prop := ∀ y ∈ L.drop j, x ≤ y
theorem sunk_all (L : List Int) (x : Int) : Sunk L L.length x := fun y hy => by simp at hy
theorem sunk_step {L : List Int} {j : Nat} {x : Int} (h : Sunk L (j + 1) x) (hj : j + 1 ≤ L.length) (hx : x < nth L j) : Sunk L j x := fun y hy => by
  rw [List.drop_eq_getElem_cons (by omega)] at hy
  rcases List.mem_cons.1 hy with rfl | hy
  · rw [nth_get (by omega)] at hx; omega
  · exact h y hy
theorem sunk_end {zs : List Int} {k j : Nat} (hk : k < zs.length) (h : Sunk (srt (zs.take k)) j (nth zs k)) (h1 : j = 0 ∨ ∃ i, j = i + 1 ∧ i + 1 ≤ (srt (zs.take k)).length ∧ nth (srt (zs.take k)) i ≤ nth zs k) :
    insAt (srt (zs.take k)) j (nth zs k) = srt (zs.take (k + 1)) := by
  refine srt_unique ?_ (insAt_sorted (srt_le _) ?_ h)
  · refine (insAt_perm _ _ _).trans ?_
    rw [List.take_succ_eq_append_getElem hk, nth_get hk]
    exact (srt_perm _).append_right _
  · rcases h1 with rfl | ⟨i, rfl, hi, hle⟩
    · intro y hy; simp at hy
    · exact take_le (srt_le _) hi hle
end Go.Proofs.YtncknfhfkmmhbaaGreat
