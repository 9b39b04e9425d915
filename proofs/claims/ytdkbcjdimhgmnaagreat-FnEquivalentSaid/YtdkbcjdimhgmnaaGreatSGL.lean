/- slices.Compact on edges of which no two neighbors are alike. No condition beyond those stated. -/
import Derived.Test.YtdkbcjdimhgmnaaGreatSGJ
import Derived.Test.YtdkbcjdimhgmnaaGreatSGK
set_option linter.unusedVariables false
set_option linter.unusedSimpArgs false
namespace Go.Proofs.YtdkbcjdimhgmnaaGreat
open Go.RowKit
theorem OE.drewN {w : World} {B : Nat} {ty : TypeId} {A : Option Addr} {n c : Nat} {es : List Ed} (h : OE w B ty A n c es) (q : Nat) : OE (w.drewN q) B ty A n c es := h.below (below_drewn w q)
set_option maxRecDepth 100000 in
set_option maxHeartbeats 2000000 in
theorem compactE_any (B : Nat) (A : Option Addr) (n c : Nat) (zs : List Ed) (w : World) (ho : OE w B 113 A n c zs) (hn : n ≤ 1048576) (hne : ∀ k, k + 1 < n → nthE zs (k + 1) ≠ nthE zs k) :
    Calls Tryz.prog 217 #[.slice A n c] w (fun e w' => e = .returned (.slice A n c) ∧ Drawn w w') := by
  have hla := Lib.hid ho.len
  have HN := Lib.hid hne; clear hne
  by_cases h2 : n < 2
  · go_enter Tryz.func217, Tryz.ntmps217
    go_wp2
    go_ret
    exact ⟨rfl, Drawn.refl _⟩
  · obtain ⟨g, rfl, hgB, hgl⟩ := ho.os.form (by omega)
    obtain ⟨ii, hi, hi0, hi1, hi2⟩ := info_parts edge_info
    go_enter Tryz.func217, Tryz.ntmps217
    go_wp2
    go_loopw [3] (fun i wr => ∃ k : Nat, k + 1 ≤ n ∧ i = .int .i64 ((k + 1 : Nat) : Int) ∧ Drawn w wr) (fun i _ => n - (intOf i).toNat)
    case atStart => exact ⟨0, by omega, rfl, Drawn.refl _⟩
    case round =>
      obtain ⟨k, hk, rfl, hd⟩ := hrel
      by_cases hlt : k + 1 < n
      · have hod : OE wr B 113 (some ⟨g, 0, none⟩) n c zs := by obtain ⟨q, rfl⟩ := hd; exact ho.drewN q
        obtain ⟨g1, e1, hc1, hd1, -, -, i1, i2⟩ := hod.cell (k := k + 1) hlt
        obtain ⟨g2, e2, hc0, hd0, -, -, i3, i4⟩ := hod.cell (k := k) (by omega)
        injection e1 with e1; injection e1 with e1; subst e1
        injection e2 with e2; injection e2 with e2; subst e2
        have he := HN.out k hlt
        generalize nthE zs (k + 1) = e1 at *
        generalize nthE zs k = e0 at *
        obtain ⟨x1, y1⟩ := e1
        obtain ⟨x0, y0⟩ := e0
        simp only at hc1 hd1 hc0 hd0 i1 i2 i3 i4
        clear hod
        go_wp2
        have hS : ∀ q, (wr.drewN q).cell? ⟨g, (k + 1) * 2, none⟩ = some (.int .i64 x1) ∧ (wr.drewN q).cell? ⟨g, (k + 1) * 2 + 1, none⟩ = some (.int .i64 y1) ∧ (wr.drewN q).cell? ⟨g, k * 2, none⟩ = some (.int .i64 x0) ∧ (wr.drewN q).cell? ⟨g, k * 2 + 1, none⟩ = some (.int .i64 y0) := fun q => ⟨hc1, hd1, hc0, hd0⟩
        have hS := hS 1
        have hkn : k < n := by omega
        have hwk : IntKind.i64.wrap (k : Int) = (k : Int) := by unfold IntKind.wrap IntKind.bits IntKind.signed; simp; omega
        have p0 : (0 : Int) ≤ (k : Int) + 1 := by omega
        refine wp_region_any (by kernel_rfl) (wpAny_of_held (S := fun w' => w'.cell? ⟨g, (k + 1) * 2, none⟩ = some (.int .i64 x1) ∧ w'.cell? ⟨g, (k + 1) * 2 + 1, none⟩ = some (.int .i64 y1) ∧ w'.cell? ⟨g, k * 2, none⟩ = some (.int .i64 x0) ∧ w'.cell? ⟨g, k * 2 + 1, none⟩ = some (.int .i64 y0)) _ _ _ _ ?_)
        refine wpAnyH_take (i := 0) (v := ?_) rfl (by kernel_rfl) (by kernel_rfl) (by kernel_rfl) (fun _ _ _ h => h) (Or.inl ⟨by rfl, ?_⟩) (by assumption) ?_
        rotate_left
        · (intro w hSw; (try dsimp only at hSw); go_simp; (try with_reducible rfl))
        simp only [Act.put, List.setIfInBounds_toArray, List.set_cons_zero, List.set_cons_succ]
        refine wpAnyH_take (i := 1) (v := ?_) rfl (by kernel_rfl) (by kernel_rfl) (by kernel_rfl) (fun _ _ _ h => h) (Or.inl ⟨by rfl, ?_⟩) (by assumption) ?_
        rotate_left
        · (intro w hSw; (try dsimp only at hSw); go_simp; (try with_reducible rfl))
        simp only [Act.put, List.setIfInBounds_toArray, List.set_cons_zero, List.set_cons_succ]
        refine wpAnyH_take (i := 2) (v := ?_) rfl (by kernel_rfl) (by kernel_rfl) (by kernel_rfl) (fun _ _ _ h => h) (Or.inl ⟨by rfl, ?_⟩) (by assumption) ?_
        rotate_left
        · (intro w hSw; (try dsimp only at hSw); go_simp; (try with_reducible rfl))
        simp only [Act.put, List.setIfInBounds_toArray, List.set_cons_zero, List.set_cons_succ]
        refine wpAnyH_take (i := 3) (v := ?_) rfl (by kernel_rfl) (by kernel_rfl) (by kernel_rfl) (fun _ _ _ h => h) (Or.inl ⟨by rfl, ?_⟩) (by assumption) ?_
        rotate_left
        · (intro w hSw; (try dsimp only at hSw); go_simp; (try with_reducible rfl))
        simp only [Act.put, List.setIfInBounds_toArray, List.set_cons_zero, List.set_cons_succ]
        refine wpAnyH_take (i := 4) (v := ?_) rfl (by kernel_rfl) (by kernel_rfl) (by kernel_rfl) (fun _ _ _ h => h) (Or.inl ⟨by rfl, ?_⟩) (by assumption) ?_
        rotate_left
        · (intro w hSw; (try dsimp only at hSw); go_simp; (try with_reducible rfl))
        simp only [Act.put, List.setIfInBounds_toArray, List.set_cons_zero, List.set_cons_succ]
        refine wpAnyH_take (i := 5) (v := ?_) rfl (by kernel_rfl) (by kernel_rfl) (by kernel_rfl) (fun _ _ _ h => h) (Or.inl ⟨by rfl, ?_⟩) (by assumption) ?_
        rotate_left
        · (intro w hSw; (try dsimp only at hSw); go_simp; (try with_reducible rfl))
        simp only [Act.put, List.setIfInBounds_toArray, List.set_cons_zero, List.set_cons_succ]
        refine wpAnyH_take (i := 6) (v := ?_) rfl (by kernel_rfl) (by kernel_rfl) (by kernel_rfl) (fun _ _ _ h => h) (Or.inl ⟨by rfl, ?_⟩) (by assumption) ?_
        rotate_left
        · (intro w hSw; (try dsimp only at hSw); go_simp; (try with_reducible rfl))
        simp only [Act.put, List.setIfInBounds_toArray, List.set_cons_zero, List.set_cons_succ]
        refine wpAnyH_take (i := 7) (v := ?_) rfl (by kernel_rfl) (by kernel_rfl) (by kernel_rfl) (fun _ _ _ h => h) (Or.inl ⟨by rfl, ?_⟩) (by assumption) ?_
        rotate_left
        · (intro w hSw; (try dsimp only at hSw); go_simp; (try with_reducible rfl))
        simp only [Act.put, List.setIfInBounds_toArray, List.set_cons_zero, List.set_cons_succ]
        refine wpAnyH_take (i := 8) (v := ?_) rfl (by kernel_rfl) (by kernel_rfl) (by kernel_rfl) (fun _ _ _ h => h) (Or.inl ⟨by rfl, ?_⟩) (by assumption) ?_
        rotate_left
        · (intro w hSw; (try dsimp only at hSw); go_simp; (try with_reducible rfl))
        simp only [Act.put, List.setIfInBounds_toArray, List.set_cons_zero, List.set_cons_succ]
        refine wpAnyH_take (i := 9) (v := .bool false) rfl (by kernel_rfl) (by kernel_rfl) (by kernel_rfl) (fun _ _ _ h => h) (Or.inl ⟨by rfl, ?_⟩) (by assumption) ?_
        · intro w hSw
          go_simp
          exact fun h1 h2 => he (by rw [h1, h2])
        simp only [Act.put, List.setIfInBounds_toArray, List.set_cons_zero, List.set_cons_succ, List.getElem_toArray, List.getElem_cons_succ, List.getElem_cons_zero]
        refine wpAnyH_done (by kernel_rfl) ?_ _
        clear hS p0 hkn hwk
        go_wp2
        go_roundw
        case rel => exact ⟨k + 1, by omega, by go_num, hd.more _⟩
        case measure => simp [intOf]; omega
      · go_wp2
        go_ret
        exact ⟨rfl, hd⟩
theorem RE.news {w : World} {A : Option Addr} {n : Nat} {es : List Ed} (h : RE w A n es) : ∀ (j : Nat) (u : Value), (ecells es)[j]? = some u → ∃ ad, A = some ad ∧ w.cell? (ad.add j) = some u := fun j u hu => by
  have hj : j < es.length * 2 := by have := (List.getElem?_eq_some_iff.1 hu).1; rwa [ecells_len] at this
  have hd : j / 2 < es.length := by omega
  have h4 := ecells_at (List.getElem?_eq_getElem hd)
  obtain ⟨g, o, ha, h1, h2, _⟩ := h.at_ (j / 2) _ (List.getElem?_eq_getElem hd)
  refine ⟨_, ha, ?_⟩
  have hadd : (⟨g, o, none⟩ : Addr).add j = ⟨g, o + j, none⟩ := by unfold Addr.add; split <;> simp_all
  rw [hadd]
  rcases Nat.mod_two_eq_zero_or_one j with e | e
  · have e1 : j / 2 * 2 = j := by omega
    rw [e1] at h4 h1
    rw [h4.1] at hu
    injection hu with hu
    rw [h1, hu]
  · have e1 : j / 2 * 2 + 1 = j := by omega
    rw [e1] at h4
    rw [Nat.add_assoc, e1] at h2
    rw [h4.2] at hu
    injection hu with hu
    rw [h2, hu]
theorem RE.lit1 (w : World) (ty : TypeId) (x y : Int) (hx : I64 x) (hy : I64 y) : RE (w.alloc (.cells #[.int .i64 x, .int .i64 y] ty)) (some ⟨w.heap.size, 0, none⟩) 1 [(x, y)] := by
  obtain ⟨h0, h1⟩ := (Blk.new w ty #[.int .i64 x, .int .i64 y]).cells2
  refine ⟨rfl, fun j e he => ?_⟩
  cases j with
  | zero =>
    simp at he
    subst he
    exact ⟨w.heap.size, 0, rfl, h0, h1, hx, hy⟩
  | succ j => simp at he
section
variable {ops : Array Oper} {rest : List Oper} {o : Oper} {a : Act} {Q : Exit → Act → World → Prop}
theorem app_edges (w : World) (hgd : o.guard = none) (s x : Operand) (ho : o.op = .call { callee := .builtin .append, args := #[s, x], argTypes := #[44, 44] })
    (B : Nat) (A : Option Addr) (n c : Nat) (zs : List Ed) (hs : a.eval s = .slice A n c) (hown : OE w B 113 A n c zs) (A2 : Option Addr) (m c2 : Nat) (ys : List Ed) (hx : a.eval x = .slice A2 m c2) (hr : RE w A2 m ys) (hall : All64E ys)
    (hbig : n + m ≤ 2199023255552) (hB : B ≤ w.heap.size)
    (h : ∀ A' c' w', OE w' B 113 A' (n + m) c' (zs ++ ys) → w.grownBy w' (blk A) → (blk A' = blk A ∨ blk A' = some w.heap.size) → wpList Tryz.prog ops Q rest (a.put o.dst (.slice A' (n + m) c')) w') :
    wpList Tryz.prog ops Q (o :: rest) a w :=
  wpList_app w hgd s x 44 ho 113 (.agg #[.int .i64 0, .int .i64 0]) 2 16 Tryz.underlying44 edge_info rfl (by omega) (by omega) B A n c (ecells zs) hs hown.os A2 m c2 (ecells ys) hx (by rw [ecells_len, hr.len]) hr.news (ecells_one ys) hbig hB
    fun A' c' w' h1 h2 h3 => h A' c' w' ⟨by rw [ecells_app]; exact h1, fun e he => (List.mem_append.1 he).elim (hown.all e) (hall e)⟩ h2 h3
end
theorem sorted_setE {l m : List Ed} (hp : m.Perm l) (hs : SortedL cmpE m) (hn : l.Nodup) : m = setG cmpE l := by
  refine (setG_eq cmpE_ord ?_ fun x => hp.mem_iff).symm
  have hn' : m.Nodup := hp.nodup_iff.2 hn
  refine List.Pairwise.imp (fun {a b} h => ?_) (hs.and hn')
  have h0 : cmpE a b ≠ 0 := fun e => h.2 (cmpE_ord.eq_of e)
  have := h.1
  omega
def mmP (e : Ed) : Ed := mmE e.1 e.2
set_option maxRecDepth 100000 in
set_option maxHeartbeats 2000000 in
theorem sortedEdges_any (A : Option Addr) (n c : Nat) (zs : List Ed) (w : World) (hr : RE w A n zs) (hn : n ≤ 1048576) (hnd : (zs.map mmP).Nodup) :
    Calls Tryz.prog 174 #[.slice A n c] w (fun e w' => ∃ A' c', e = .returned (.slice A' n c') ∧ OE w' w.heap.size 113 A' n c' (setG cmpE (zs.map mmP)) ∧ Below w.heap.size w w') := by
  have hla := Lib.hid hr.len
  obtain ⟨ii, hi, hi0, hi1, hi2⟩ := info_parts edge_info
  have ho0 : OE w w.heap.size 113 none 0 0 ((zs.map mmP).take 0) := OE.nil_ _ _ _
  have HN := Lib.hid hnd; clear hnd
  have hb0 : Below w.heap.size w w := Below.refl _ _
  go_enter Tryz.func174, Tryz.ntmps174
  go_wp2
  go_loopw [3, 8] (fun v i wr => ∃ (k : Nat) (T : Option Addr) (q : Nat), k ≤ n ∧ i = .int .i64 k ∧ v = .slice T k q ∧ OE wr w.heap.size 113 T k q ((zs.map mmP).take k) ∧ Below w.heap.size w wr) (fun _ i _ => n - (intOf i).toNat)
  case atStart => exact ⟨0, _, _, Nat.zero_le _, rfl, rfl, ho0, hb0⟩
  case round =>
    clear ho0 hb0
    obtain ⟨k, T, q, hk, rfl, rfl, ho, hw⟩ := hrel
    by_cases hlt : k < n
    · obtain ⟨ge, oe, rfl, ce1, ce2, i1, i2⟩ := hr.get hlt
      have hst := Lib.hid (show (zs.map mmP).take (k + 1) = (zs.map mmP).take k ++ [mmP (nthE zs k)] by rw [List.take_succ_eq_append_getElem (by simp [hla.out]; exact hlt), List.getElem_map, nthE_get (by rw [hla.out]; exact hlt)])
      generalize nthE zs k = e at *
      obtain ⟨x, y⟩ := e
      simp only [mmP, mmE] at ce1 ce2 i1 i2 hst
      have c1 := below_cell hw ce1
      have c2 := below_cell hw ce2
      have E1 := Blk.new wr 113 #[.int .i64 x, .int .i64 y]
      obtain ⟨e1, e2⟩ := E1.cells2
      have hI1 : I64 (min x y) := ⟨by have := i1.1; have := i2.1; omega, by have := i1.2; have := i2.2; omega⟩
      have hI2 : I64 (max x y) := ⟨by have := i1.1; have := i2.1; omega, by have := i1.2; have := i2.2; omega⟩
      have L := RE.lit1 (wr.alloc (.cells #[.int .i64 x, .int .i64 y] 113)) 113 (min x y) (max x y) hI1 hI2
      have hs1 : (wr.alloc (.cells #[.int .i64 x, .int .i64 y] 113)).heap.size = wr.heap.size + 1 := by simp
      rw [hs1] at L
      have bb := (below_alloc wr (.cells #[.int .i64 x, .int .i64 y] 113)).trans ((below_alloc (wr.alloc (.cells #[.int .i64 x, .int .i64 y] 113)) (.cells #[.int .i64 (min x y), .int .i64 (max x y)] 113)).mono (by simp))
      have ho1 := ho.below bb
      have hw1 := hw.trans (bb.mono hw.size)
      clear ho hw bb hs1 E1
      go_wp2_with (at_builtin; refine app_edges _ rfl (.tmp 12) (.tmp 24) rfl w.heap.size T k q _ rfl ho1 (some ⟨wr.heap.size + 1, 0, none⟩) 1 1 [(min x y, max x y)] rfl L (fun e he => by simp at he; subst he; exact ⟨hI1, hI2⟩) (by omega) hw1.size ?_; intro A' c' w3 ho3 hg3 hn3)
      have hw3 := below_own hw1 hg3 hw1.size (fun b hb => (ho1.os.lt hb).1)
      rw [← hst.out] at ho3
      go_roundw
      case rel => exact ⟨k + 1, _, _, by omega, by go_num, rfl, ho3, hw3⟩
      case measure => simp [intOf]; omega
    · obtain rfl : k = n := by omega
      rw [List.take_of_length_le (by simp [hla.out])] at ho
      have hso := sortE_any w.heap.size k q T _ wr ho hn
      go_wp2_with (go_at_call 216; refine hso.mono ?_; rintro e w2 ⟨Y, rfl, hoY, hp, hsd, hg2⟩)
      have hw2 := below_own hw hg2 hw.size (fun b hb => (ho.os.lt hb).1)
      obtain rfl := sorted_setE hp hsd HN.out
      have hlY := hoY.len
      have hcp := compactE_any w.heap.size T k q _ w2 hoY hn (fun j hj => by
        have h1 := setG_strict cmpE_ord (zs.map mmP)
        have h2 := strict_nodup cmpE_ord h1
        rw [nthE_get (by omega), nthE_get (by omega)]
        intro e
        exact (List.pairwise_iff_getElem.1 h2 j (j + 1) (by omega) (by omega) (by omega)) e.symm)
      clear hso hp hsd hg2 ho hw
      go_wp2_with (go_at_call 217; refine hcp.mono ?_; rintro e w3 ⟨rfl, hd3⟩)
      go_ret
      exact ⟨_, _, rfl, hoY.below hd3.below, hw2.trans (hd3.below.mono hw2.size)⟩
structure GB (w0 wr : World) (rb gb : Nat) (A : Option Addr) (n c : Nat) (F : Option Addr) (m d : Nat) (cs : List Int) (es : List Ed) : Prop where
  b : Below w0.heap.size w0 wr
  x : Blk wr gb 46 #[.slice A n c, .slice F m d]
  r : Blk wr rb 46 #[.slice none 0 0, .slice none 0 0]
  oa : OI wr w0.heap.size 2 A n c cs
  of_ : OE wr w0.heap.size 113 F m d es
  rg : rb < gb
  wb : w0.heap.size ≤ rb
section
variable {w0 wr w' : World} {rb gb : Nat} {A : Option Addr} {n c : Nat} {F : Option Addr} {m d : Nat} {cs : List Int} {es : List Ed}
theorem GB.step (h : GB w0 wr rb gb A n c F m d cs es) (hb : Below wr.heap.size wr w') : GB w0 w' rb gb A n c F m d cs es :=
  ⟨h.b.trans (hb.mono h.b.size), h.x.after hb, h.r.after hb, h.oa.below hb, h.of_.below hb, h.rg, h.wb⟩
theorem GB.edges (h : GB w0 wr rb gb A n c F m d cs es) (hg : wr.grownBy w' (blk F)) {F' : Option Addr} {m' d' : Nat} {es' : List Ed} (ho : OE w' w0.heap.size 113 F' m' d' es') :
    GB w0 (w'.setCell ⟨gb, 1, none⟩ (.slice F' m' d')) rb gb A n c F' m' d' cs es' := by
  have hrg := h.rg
  have hwb := h.wb
  have hx := h.x.grown hg (OS.typed' h.of_.os h.x (by decide))
  have hr := h.r.grown hg (OS.typed' h.of_.os h.r (by decide))
  have hoa := h.oa.kept hg (OS.typed h.oa.os h.of_.os (by decide))
  have hb := below_own h.b hg h.b.size (fun b hb => (h.of_.os.lt hb).1)
  refine ⟨Below.setCell hb (by show w0.heap.size ≤ gb; omega) _, ?_, hr.far (by show rb ≠ gb; omega) _, ?_, ?_, hrg, hwb⟩
  · have := hx.set_ 1 (.slice F' m' d')
    simpa using this
  · exact hoa.kept grown_set (.inr fun e => OS.typed' hoa.os hx (by decide) e.symm)
  · exact ho.kept grown_set (.inr fun e => OS.typed' ho.os hx (by decide) e.symm)
theorem GB.edges0 (h : GB w0 wr rb gb A n c F m d cs es) {F' : Option Addr} {m' d' : Nat} {es' : List Ed} (ho : OE wr w0.heap.size 113 F' m' d' es') :
    GB w0 (wr.setCell ⟨gb, 1, none⟩ (.slice F' m' d')) rb gb A n c F' m' d' cs es' := h.edges (World.grownBy.refl _ _) ho
theorem GB.done (h : GB w0 wr rb gb A n c F m d cs es) :
    OG ((wr.setCell ⟨rb, 0, none⟩ (.slice A n c)).setCell ⟨rb, 1, none⟩ (.slice F m d)) w0.heap.size ((wr.setCell ⟨rb, 0, none⟩ (.slice A n c)).setCell ⟨rb, 1, none⟩ (.slice F m d)).heap.size A n c F m d cs es ∧
    Below w0.heap.size w0 ((wr.setCell ⟨rb, 0, none⟩ (.slice A n c)).setCell ⟨rb, 1, none⟩ (.slice F m d)) ∧
    Blk ((wr.setCell ⟨rb, 0, none⟩ (.slice A n c)).setCell ⟨rb, 1, none⟩ (.slice F m d)) rb 46 #[.slice A n c, .slice F m d] := by
  have hrg := h.rg
  have hwb := h.wb
  have e1 : some rb ≠ blk A := OS.typed' h.oa.os h.r (by decide)
  have e2 : some rb ≠ blk F := OS.typed' h.of_.os h.r (by decide)
  have o1 := (h.oa.kept (grown_set (g := rb) (p := 0) (u := .slice A n c)) (.inr fun e => e1 e.symm)).kept (grown_set (g := rb) (p := 1) (u := .slice F m d)) (.inr fun e => e1 e.symm)
  have o2 := (h.of_.kept (grown_set (g := rb) (p := 0) (u := .slice A n c)) (.inr fun e => e2 e.symm)).kept (grown_set (g := rb) (p := 1) (u := .slice F m d)) (.inr fun e => e2 e.symm)
  exact ⟨OG.of o1 o2, Below.setCell (Below.setCell h.b (by show w0.heap.size ≤ rb; omega) _) (by show w0.heap.size ≤ rb; omega) _, by
    have := (h.r.set_ 0 (.slice A n c)).set_ 1 (.slice F m d)
    simpa using this⟩
end
end Go.Proofs.YtdkbcjdimhgmnaaGreat
