/- A graph under construction; spec.l21Of. No condition beyond those stated. -/
import Derived.Test.YtkihflnenifcgaaGreatDoorZAV
set_option linter.unusedVariables false
set_option linter.unusedSimpArgs false
namespace Go.Proofs.YtkihflnenifcgaaGreatDoor
open Go.RowKit

structure GB (w0 wr : World) (rb gb : Nat) (A : Option Addr) (n c : Nat) (F : Option Addr) (m d : Nat) (cs : List Int) (es : List Ed) : Prop where
  b : Below w0.heap.size w0 wr
  x : Blk wr gb 27 #[.slice A n c, .slice F m d]
  r : Blk wr rb 27 #[.slice none 0 0, .slice none 0 0]
  oa : OI wr w0.heap.size 2 A n c cs
  of_ : OE wr w0.heap.size 65 F m d es
  rg : rb < gb
  wb : w0.heap.size ≤ rb
section
variable {w0 wr w' : World} {rb gb : Nat} {A : Option Addr} {n c : Nat} {F : Option Addr} {m d : Nat} {cs : List Int} {es : List Ed}
theorem GB.step (h : GB w0 wr rb gb A n c F m d cs es) (hb : Below wr.heap.size wr w') : GB w0 w' rb gb A n c F m d cs es :=
  ⟨h.b.trans (hb.mono h.b.size), h.x.after hb, h.r.after hb, h.oa.below hb, h.of_.below hb, h.rg, h.wb⟩
theorem GB.edges (h : GB w0 wr rb gb A n c F m d cs es) (hg : wr.grownBy w' (blk F)) {F' : Option Addr} {m' d' : Nat} {es' : List Ed} (ho : OE w' w0.heap.size 65 F' m' d' es') :
    GB w0 (w'.setCell ⟨gb, 1, none⟩ (.slice F' m' d')) rb gb A n c F' m' d' cs es' := by
  have hrg := h.rg
  have hwb := h.wb
  have hx := h.x.grown hg (OS.typed' h.of_.os h.x (by decide))
  have hr := h.r.grown hg (OS.typed' h.of_.os h.r (by decide))
  have hoa := h.oa.kept hg (OS.typed h.oa.os h.of_.os (by decide))
  have hb := below_own h.b hg h.b.size (fun b hb => (h.of_.os.lt hb).1)
  refine ⟨Below.setCell hb (by show w0.heap.size ≤ gb; omega) _, ?_, hr.far (by show rb ≠ gb; omega) _, ?_, ?_, hrg, hwb⟩
  · have := hx.set_ 1 (.slice F' m' d')
    simpa using this
  · exact hoa.kept grown_set (.inr fun e => OS.typed' hoa.os hx (by decide) e.symm)
  · exact ho.kept grown_set (.inr fun e => OS.typed' ho.os hx (by decide) e.symm)
theorem GB.edges0 (h : GB w0 wr rb gb A n c F m d cs es) {F' : Option Addr} {m' d' : Nat} {es' : List Ed} (ho : OE wr w0.heap.size 65 F' m' d' es') :
    GB w0 (wr.setCell ⟨gb, 1, none⟩ (.slice F' m' d')) rb gb A n c F' m' d' cs es' := h.edges (World.grownBy.refl _ _) ho
/-- what is handed back -/
theorem GB.done (h : GB w0 wr rb gb A n c F m d cs es) :
    OG ((wr.setCell ⟨rb, 0, none⟩ (.slice A n c)).setCell ⟨rb, 1, none⟩ (.slice F m d)) w0.heap.size ((wr.setCell ⟨rb, 0, none⟩ (.slice A n c)).setCell ⟨rb, 1, none⟩ (.slice F m d)).heap.size A n c F m d cs es ∧
    Below w0.heap.size w0 ((wr.setCell ⟨rb, 0, none⟩ (.slice A n c)).setCell ⟨rb, 1, none⟩ (.slice F m d)) ∧
    Blk ((wr.setCell ⟨rb, 0, none⟩ (.slice A n c)).setCell ⟨rb, 1, none⟩ (.slice F m d)) rb 27 #[.slice A n c, .slice F m d] := by
  have hrg := h.rg
  have hwb := h.wb
  have e1 : some rb ≠ blk A := OS.typed' h.oa.os h.r (by decide)
  have e2 : some rb ≠ blk F := OS.typed' h.of_.os h.r (by decide)
  have o1 := (h.oa.kept (grown_set (g := rb) (p := 0) (u := .slice A n c)) (.inr fun e => e1 e.symm)).kept (grown_set (g := rb) (p := 1) (u := .slice F m d)) (.inr fun e => e1 e.symm)
  have o2 := (h.of_.kept (grown_set (g := rb) (p := 0) (u := .slice A n c)) (.inr fun e => e2 e.symm)).kept (grown_set (g := rb) (p := 1) (u := .slice F m d)) (.inr fun e => e2 e.symm)
  exact ⟨OG.of o1 o2, Below.setCell (Below.setCell h.b (by show w0.heap.size ≤ rb; omega) _) (by show w0.heap.size ≤ rb; omega) _, by
    have := (h.r.set_ 0 (.slice A n c)).set_ 1 (.slice F m d)
    simpa using this⟩
end
theorem OE.none_ (w : World) (B : Nat) (hB : B ≤ w.heap.size) : OE (w.alloc (.cells #[] 65)) B 65 (some ⟨w.heap.size, 0, none⟩) 0 0 [] := ⟨OS.lit w B 65 2 0 #[] hB rfl (by omega), fun _ h => by cases h⟩
/-- the rows of a table so far -/
def tabU (n : Nat) (f : Nat → Nat → Bool) (i : Nat) : List Ed := (List.range i).flatMap fun (a : Nat) => (((List.range n).drop (a + 1)).filter fun (b : Nat) => f a b).map fun (b : Nat) => ((a : Int), (b : Int))
def tabV (f : Nat → Nat → Bool) (a j : Nat) : List Ed := (((List.range j).drop (a + 1)).filter fun (b : Nat) => f a b).map fun (b : Nat) => ((a : Int), (b : Int))
theorem tabU_zero (n : Nat) (f : Nat → Nat → Bool) : tabU n f 0 = [] := rfl
theorem tabU_all (n : Nat) (f : Nat → Nat → Bool) : tabU n f n = tabE n f := rfl
theorem tabU_step (n : Nat) (f : Nat → Nat → Bool) (i : Nat) : tabU n f (i + 1) = tabU n f i ++ tabV f i n := by simp [tabU, tabV, List.range_succ]
theorem tabV_start (f : Nat → Nat → Bool) (a : Nat) : tabV f a (a + 1) = [] := by
  unfold tabV
  rw [List.drop_of_length_le (by simp)]
  rfl
theorem tabV_yes {f : Nat → Nat → Bool} {a j : Nat} (h : a + 1 ≤ j) (hf : f a j = true) : tabV f a (j + 1) = tabV f a j ++ [((a : Int), (j : Int))] := by
  unfold tabV
  rw [List.range_succ, List.drop_append_of_le_length (by simp; omega), List.filter_append, List.map_append]
  simp [hf]
theorem tabV_no {f : Nat → Nat → Bool} {a j : Nat} (h : a + 1 ≤ j) (hf : f a j = false) : tabV f a (j + 1) = tabV f a j := by
  unfold tabV
  rw [List.range_succ, List.drop_append_of_le_length (by simp; omega), List.filter_append, List.map_append]
  simp [hf]
set_option maxRecDepth 100000 in
set_option maxHeartbeats 4000000 in
theorem l21Of_any (A : Option Addr) (n c : Nat) (cs : List Int) (T : Option Addr) (q Bt : Nat) (f : Nat → Nat → Bool) (w : World) (ha : RI w A n cs) (hn : n ≤ 4096) (hT : TB w Bt 111 4 T n q n f) :
    Calls Tryz.prog 70 #[.slice A n c, .slice T n q] w (RetG w cs (tabE n f)) := by
  have hb1 := below_alloc w (.cells #[.slice none 0 0, .slice none 0 0] 27)
  have X := Blk.new w 27 #[.slice none 0 0, .slice none 0 0]
  have ha1 := ha.keep hb1
  have hs1 : (w.alloc (.cells #[.slice none 0 0, .slice none 0 0] 27)).heap.size = w.heap.size + 1 := by simp
  obtain ⟨ii, hi, hi0, hi1, hi2⟩ := info_parts graph_info
  obtain ⟨ie, he, he0, he1, he2⟩ := info_parts edge_info
  have hcp := l00Own_any A n c cs _ ha1 (by omega)
  have hcT := hT.cap
  have hlen := ha.len
  go_enter Tryz.func70, Tryz.ntmps70
  go_wp2_with (go_at_call 94; refine hcp.mono ?_; rintro e w2 ⟨A2, n2, c2, rfl, ho2, hb2⟩)
  obtain rfl : n2 = n := by rw [← ho2.len, hlen]
  have hs2 := hb2.size
  rw [hs1] at hs2 hb2 ho2
  have X2 := X.after (hb2.mono (by simp))
  have hw2 := hb1.trans (hb2.mono (by omega))
  have ho2 := ho2.more (B' := w.heap.size) (by omega)
  have hbb := (below_alloc w2 (.cells #[] 65)).trans ((below_alloc (w2.alloc (.cells #[] 65)) (.cells #[.slice A2 n2 c2, .slice (some ⟨w2.heap.size, 0, none⟩) 0 0] 27)).mono (by simp))
  have G0 : GB w ((w2.alloc (.cells #[] 65)).alloc (.cells #[.slice A2 n2 c2, .slice (some ⟨w2.heap.size, 0, none⟩) 0 0] 27)) w.heap.size (w2.heap.size + 1) A2 n2 c2 (some ⟨w2.heap.size, 0, none⟩) 0 0 cs [] := by
    refine ⟨hw2.trans (hbb.mono hw2.size), ?_, X2.after hbb, ho2.below hbb, ?_, by omega, Nat.le_refl _⟩
    · have := Blk.new (w2.alloc (.cells #[] 65)) 27 #[.slice A2 n2 c2, .slice (some ⟨w2.heap.size, 0, none⟩) 0 0]
      simpa using this
    · exact (OE.none_ w2 w.heap.size hw2.size).below (below_alloc _ _)
  clear hbb hw2 ho2 X2 hb2 hs2 hb1 X ha1 hs1 hcp
  obtain ⟨x0, x1⟩ := G0.x.cells2
  go_wp2
  clear x0 x1
  generalize hW : (w2.alloc (.cells #[] 65)).alloc (.cells #[.slice A2 n2 c2, .slice (some ⟨w2.heap.size, 0, none⟩) 0 0] 27) = W at *
  generalize w2.heap.size + 1 = gb at *
  generalize hF0 : (some ⟨w2.heap.size, 0, none⟩ : Option Addr) = F0 at *
  go_loopw [6] (fun i wr => ∃ (k : Nat) (F : Option Addr) (m d : Nat), k ≤ n2 ∧ i = .int .i64 k ∧ m ≤ k * 4096 ∧ GB w wr w.heap.size gb A2 n2 c2 F m d cs (tabU n2 f k)) (fun i _ => n2 - (intOf i).toNat)
  case atStart => exact ⟨0, F0, 0, 0, Nat.zero_le _, rfl, Nat.zero_le _, G0⟩
  case round =>
    clear G0 hW hF0
    obtain ⟨k, F, m, d, hk, rfl, hmk, G⟩ := hrel
    by_cases hlt : k < n2
    · have hst := Lib.hid (tabU_step n2 f k)
      have G' : GB w wr w.heap.size gb A2 n2 c2 F m d cs (tabU n2 f k ++ tabV f k (k + 1)) := by rw [tabV_start, List.append_nil]; exact G
      clear G
      go_wp2
      go_loopw [7] (fun i wr => ∃ (j : Nat) (F : Option Addr) (m d : Nat), k + 1 ≤ j ∧ j ≤ n2 ∧ i = .int .i64 j ∧ m ≤ k * 4096 + j ∧ GB w wr w.heap.size gb A2 n2 c2 F m d cs (tabU n2 f k ++ tabV f k j)) (fun i _ => n2 - (intOf i).toNat)
      case atStart => exact ⟨k + 1, F, m, d, Nat.le_refl _, by omega, by go_num, by omega, G'⟩
      case round =>
        clear G' hmk F m d
        obtain ⟨j, F, m, d, hkj, hj, rfl, hmj, G⟩ := hrel
        by_cases hjl : j < n2
        · obtain ⟨vs, hTv⟩ := hT.below G.b
          obtain ⟨g, r, kk, rfl, d1, d2, d3, d4, d5, d6, d7, -, -⟩ := hTv.at_ hlt hjl
          clear hTv
          cases hf : f k j with
          | false =>
            rw [hf] at d4
            have hN := Lib.hid (tabV_no hkj hf)
            go_wp2
            go_roundw
            case rel => exact ⟨j + 1, F, m, d, by omega, by omega, by go_num, by omega, by rw [hN.out]; exact G⟩
            case measure => simp [intOf]; omega
          | true =>
            rw [hf] at d4
            have hN := Lib.hid (tabV_yes hkj hf)
            obtain ⟨x0, x1⟩ := G.x.cells2
            have L := RE.lit1 wr 65 (k : Int) (j : Int) ⟨by omega, by omega⟩ ⟨by omega, by omega⟩
            have G1 := G.step (below_alloc wr (.cells #[.int .i64 (k : Int), .int .i64 (j : Int)] 65))
            clear G
            go_wp2_with (at_builtin; refine app_edges _ rfl (.tmp 34) (.tmp 38) rfl w.heap.size F m d _ rfl G1.of_ (some ⟨wr.heap.size, 0, none⟩) 1 1 [((k : Int), (j : Int))] rfl L (fun e he => by simp at he; subst he; exact ⟨⟨by omega, by omega⟩, ⟨by omega, by omega⟩⟩) (by omega) G1.b.size ?_; intro F' d' w3 ho3 hg3 hn3; have G3 := G1.edges hg3 ho3; have fz := ((G1.x.grown hg3 (OS.typed' G1.of_.os G1.x (by decide))).frozen 1); have cz := ((G1.x.grown hg3 (OS.typed' G1.of_.os G1.x (by decide))).cells2.2))
            go_roundw
            case rel => exact ⟨j + 1, F', m + 1, d', by omega, by omega, by go_num, by omega, by rw [hN.out, ← List.append_assoc]; exact G3⟩
            case measure => simp [intOf]; omega
        · obtain rfl : j = n2 := by omega
          rw [← hst.out] at G
          go_wp2
          go_roundw
          case rel => exact ⟨k + 1, F, m, d, by omega, by go_num, by omega, G⟩
          case measure => simp [intOf]; omega
    · obtain rfl : k = n2 := by omega
      rw [tabU_all] at G
      obtain ⟨x0, x1⟩ := G.x.cells2
      obtain ⟨r0, r1⟩ := G.r.cells2
      have f0 := G.r.frozen 0
      have f1 := G.r.frozen 1
      have hD := G.done
      go_wp2
      clear x0 x1 r0 r1
      obtain ⟨x0, x1⟩ := hD.2.2.cells2
      exact bodyPost_ret (v := .agg #[.slice A2 k c2, .slice F m d]) (by simp [results, Tryz.results70, go_sem, x0, x1]) rfl ⟨A2, k, c2, F, m, d, rfl, hD.1, hD.2.1⟩
end Go.Proofs.YtkihflnenifcgaaGreatDoor
/- spec.l21Relabel. No condition beyond those stated. -/
namespace Go.Proofs.YtkihflnenifcgaaGreatDoor
open Go.RowKit

theorem relB_snoc (es : List Ed) (e : Ed) (p : List Int) (a b : Nat) : relB (es ++ [e]) p a b = (relB es p a b || ((nth p e.1.toNat == (a : Int) && nth p e.2.toNat == (b : Int)) || (nth p e.2.toNat == (a : Int) && nth p e.1.toNat == (b : Int)))) := by simp [relB]
theorem relB_step {es : List Ed} {p : List Int} {k : Nat} (hk : k < es.length) {x y px py : Nat} (hx : (nthE es k).1 = x) (hy : (nthE es k).2 = y) (hpx : nth p x = px) (hpy : nth p y = py) (a b : Nat) :
    (if a = py ∧ b = px then true else if a = px ∧ b = py then true else relB (es.take k) p a b) = relB (es.take (k + 1)) p a b := by
  rw [List.take_succ_eq_append_getElem hk, relB_snoc, ← nthE_get hk, hx, hy, Int.toNat_natCast, Int.toNat_natCast, hpx, hpy]
  by_cases h1 : a = py ∧ b = px
  · obtain ⟨rfl, rfl⟩ := h1
    simp
  · rw [if_neg h1]
    by_cases h2 : a = px ∧ b = py
    · obtain ⟨rfl, rfl⟩ := h2
      simp
    · rw [if_neg h2]
      have e1 : (((px : Int) == (a : Int)) && ((py : Int) == (b : Int))) = false := by
        simp; intro h3 h4; exact h2 ⟨by omega, by omega⟩
      have e2 : (((py : Int) == (a : Int)) && ((px : Int) == (b : Int))) = false := by
        simp; intro h3 h4; exact h1 ⟨by omega, by omega⟩
      rw [e1, e2]
      simp
theorem permAt {p : List Int} {n : Nat} (hp : Perm p) (hl : p.length = n) {k : Nat} (h : k < n) : ∃ q : Nat, nth p k = q ∧ q < n := by
  have := hp.bd k (by omega)
  exact ⟨(nth p k).toNat, by omega, by omega⟩
set_option maxRecDepth 100000 in
set_option maxHeartbeats 4000000 in
theorem l21Relabel_any (A : Option Addr) (n c : Nat) (F : Option Addr) (m d : Nat) (cs : List Int) (es : List Ed) (P : Option Addr) (cP : Nat) (p : List Int) (w : World) (ha : RG w A n F m cs es) (hP : RI w P n p) (hp : Perm p) (hn : n ≤ 4096) (hm : m ≤ 1048576) (he : EdgesOk n es) :
    Calls Tryz.prog 122 #[.agg #[.slice A n c, .slice F m d], .slice P n cP] w (RetG w (relC cs p) (relE es p)) := by
  have hla := Lib.hid ha.ri.len
  have hle := Lib.hid ha.re.len
  have hlp := Lib.hid hP.len
  have HE := Lib.hid he.inn
  have HT := Lib.hid (relE_tab he hp hP.len); clear he
  have HP := Lib.hid (fun (k : Nat) (h : k < n) => permAt hp hP.len h); clear hp
  have hmk := run_make_row' (P := Tryz.prog) 24 2 (.int .i64 0) 8 Tryz.underlying24 int_info rfl .i64 .i64 n (by omega) (by omega)
  have X := (Blk.new w 27 #[.slice A n c, .slice F m d]).alloc (.cells #[.slice none 0 0, .slice none 0 0] 27)
  have R : Blk ((w.alloc (.cells #[.slice A n c, .slice F m d] 27)).alloc (.cells #[.slice none 0 0, .slice none 0 0] 27)) (w.heap.size + 1) 27 #[.slice none 0 0, .slice none 0 0] := by
    have := Blk.new (w.alloc (.cells #[.slice A n c, .slice F m d] 27)) 27 #[.slice none 0 0, .slice none 0 0]
    simpa using this
  have hb1 := (below_alloc w (.cells #[.slice A n c, .slice F m d] 27)).trans ((below_alloc _ (.cells #[.slice none 0 0, .slice none 0 0] 27)).mono (by simp))
  have hs1 : ((w.alloc (.cells #[.slice A n c, .slice F m d] 27)).alloc (.cells #[.slice none 0 0, .slice none 0 0] 27)).heap.size = w.heap.size + 2 := by simp
  have hw0 := hb1.alloc hb1.size (.cells (madeCells #[.int .i64 0] n) 2)
  have ho0 := OI.made ((w.alloc (.cells #[.slice A n c, .slice F m d] 27)).alloc (.cells #[.slice none 0 0, .slice none 0 0] 27)) w.heap.size 2 n hb1.size (by omega)
  have hX0 := X.alloc (.cells (madeCells #[.int .i64 0] n) 2)
  have hR0 := R.alloc (.cells (madeCells #[.int .i64 0] n) 2)
  rw [hs1] at ho0
  rw [show List.replicate n 0 = relTo cs p 0 from by rw [relTo_zero, hla.out]] at ho0
  clear X R hb1
  go_enter Tryz.func122, Tryz.ntmps122
  go_wp2
  rw [show w.heap.size + 1 + 1 = w.heap.size + 2 from rfl]
  go_loopw [6] (fun i wr => ∃ (k : Nat), k ≤ n ∧ i = .int .i64 k ∧ OI wr w.heap.size 2 (some ⟨w.heap.size + 2, 0, none⟩) n n (relTo cs p k) ∧ Below w.heap.size w wr ∧ Blk wr w.heap.size 27 #[.slice A n c, .slice F m d] ∧ Blk wr (w.heap.size + 1) 27 #[.slice none 0 0, .slice none 0 0]) (fun i _ => n - (intOf i).toNat)
  case atStart => exact ⟨0, Nat.zero_le _, rfl, ho0, hw0, hX0, hR0⟩
  case round =>
    clear ho0 hw0 hX0 hR0
    obtain ⟨k, hk, rfl, ho, hw, X, R⟩ := hrel
    by_cases hlt : k < n
    · obtain ⟨aP, rfl, hcP, iP⟩ := hP.get hlt
      obtain ⟨aA, rfl, hcA, iA⟩ := ha.ri.get hlt
      have hst := Lib.hid (relTo_step cs p k)
      obtain ⟨q, hq, hqn⟩ := HP.out k hlt
      rw [hq] at hcP hst
      rw [Int.toNat_natCast] at hst
      have c1 := below_cell hw hcP
      have c2 := below_cell hw hcA
      have c3 := X.cells2.1
      generalize nth cs k = u at *
      obtain ⟨g', hg', c4, f4⟩ := ho.cell hqn
      cases hg'
      clear hcA hcP iP hq
      go_wp2
      refine region_last (P := Tryz.prog) (S := fun w' => w'.cell? (aP.add k) = some (.int .i64 (q : Int)) ∧ w'.cell? (aA.add k) = some (.int .i64 u) ∧ w'.cell? ⟨w.heap.size, 0, none⟩ = some (.slice (some aA) n c)) (by kernel_rfl) (by simp only [List.getLast?_cons_cons, List.getLast?_singleton]; rfl) (by dsimp only [List.dropLast]) (by kernel_rfl) ⟨by simpa using c1, by simpa using c2, by simpa using c3⟩ ?_
      intro hS
      refine wpAnyH_take (i := 0) (v := ?_) rfl (by kernel_rfl) (by kernel_rfl) (by kernel_rfl) (fun _ _ _ h => h) (Or.inl ⟨by rfl, ?_⟩) (by assumption) ?_
      rotate_left
      · (intro w hSw; (try dsimp only at hSw); go_simp; (try with_reducible rfl))
      simp only [Act.put, List.setIfInBounds_toArray, List.set_cons_zero, List.set_cons_succ]
      refine wpAnyH_take (i := 1) (v := ?_) rfl (by kernel_rfl) (by kernel_rfl) (by kernel_rfl) (fun _ _ _ h => h) (Or.inl ⟨by rfl, ?_⟩) (by assumption) ?_
      rotate_left
      · (intro w hSw; (try dsimp only at hSw); go_simp; (try with_reducible rfl))
      simp only [Act.put, List.setIfInBounds_toArray, List.set_cons_zero, List.set_cons_succ]
      refine wpAnyH_take (i := 2) (v := ?_) rfl (by kernel_rfl) (by kernel_rfl) (by kernel_rfl) (fun _ _ _ h => h) (Or.inl ⟨by rfl, ?_⟩) (by assumption) ?_
      rotate_left
      · (intro w hSw; (try dsimp only at hSw); go_simp; (try with_reducible rfl))
      simp only [Act.put, List.setIfInBounds_toArray, List.set_cons_zero, List.set_cons_succ]
      refine wpAnyH_take (i := 3) (v := ?_) rfl (by kernel_rfl) (by kernel_rfl) (by kernel_rfl) (fun _ _ _ h => h) (Or.inl ⟨by rfl, ?_⟩) (by assumption) ?_
      rotate_left
      · (intro w hSw; (try dsimp only at hSw); go_simp; (try with_reducible rfl))
      simp only [Act.put, List.setIfInBounds_toArray, List.set_cons_zero, List.set_cons_succ]
      refine wpAnyH_take (i := 4) (v := ?_) rfl (by kernel_rfl) (by kernel_rfl) (by kernel_rfl) (fun _ _ _ h => h) (Or.inl ⟨by rfl, ?_⟩) (by assumption) ?_
      rotate_left
      · (intro w hSw; (try dsimp only at hSw); go_simp; (try with_reducible rfl))
      simp only [Act.put, List.setIfInBounds_toArray, List.set_cons_zero, List.set_cons_succ]
      refine wpAnyH_take (i := 5) (v := ?_) rfl (by kernel_rfl) (by kernel_rfl) (by kernel_rfl) (fun _ _ _ h => h) (Or.inl ⟨by rfl, ?_⟩) (by assumption) ?_
      rotate_left
      · (intro w hSw; (try dsimp only at hSw); go_simp; (try with_reducible rfl))
      simp only [Act.put, List.setIfInBounds_toArray, List.set_cons_zero, List.set_cons_succ]
      refine wpAnyH_take (i := 6) (v := ?_) rfl (by kernel_rfl) (by kernel_rfl) (by kernel_rfl) (fun _ _ _ h => h) (Or.inl ⟨by rfl, ?_⟩) (by assumption) ?_
      rotate_left
      · (intro w hSw; (try dsimp only at hSw); go_simp; (try with_reducible rfl))
      simp only [Act.put, List.setIfInBounds_toArray, List.set_cons_zero, List.set_cons_succ]
      refine wpAnyH_take (i := 7) (v := ?_) rfl (by kernel_rfl) (by kernel_rfl) (by kernel_rfl) (fun _ _ _ h => h) (Or.inl ⟨by rfl, ?_⟩) (by assumption) ?_
      rotate_left
      · (intro w hSw; (try dsimp only at hSw); go_simp; (try with_reducible rfl))
      simp only [Act.put, List.setIfInBounds_toArray, List.set_cons_zero, List.set_cons_succ]
      refine wpAnyH_take (i := 8) (v := ?_) rfl (by kernel_rfl) (by kernel_rfl) (by kernel_rfl) (fun _ _ _ h => h) (Or.inl ⟨by rfl, ?_⟩) (by assumption) ?_
      rotate_left
      · (intro w hSw; (try dsimp only at hSw); go_simp; (try with_reducible rfl))
      simp only [Act.put, List.setIfInBounds_toArray, List.set_cons_zero, List.set_cons_succ]
      refine wpAnyH_take (i := 9) (v := ?_) rfl (by kernel_rfl) (by kernel_rfl) (by kernel_rfl) (fun _ _ _ h => h) (Or.inl ⟨by rfl, ?_⟩) (by assumption) ?_
      rotate_left
      · (intro w hSw; (try dsimp only at hSw); go_simp; (try with_reducible rfl))
      simp only [Act.put, List.setIfInBounds_toArray, List.set_cons_zero, List.set_cons_succ]
      refine wpAnyH_take (i := 10) (v := ?_) rfl (by kernel_rfl) (by kernel_rfl) (by kernel_rfl) (fun _ _ _ h => h) (Or.inl ⟨by rfl, ?_⟩) (by assumption) ?_
      rotate_left
      · (intro w hSw; (try dsimp only at hSw); go_simp; (try with_reducible rfl))
      simp only [Act.put, List.setIfInBounds_toArray, List.set_cons_zero, List.set_cons_succ]
      refine wpAnyH_done (by kernel_rfl) ?_ _
      dsimp only [atEnd]
      clear hS c1 c2 c3
      go_wp2
      have n1 := OS.typed' ho.os X (by decide)
      have n2 := OS.typed' ho.os R (by decide)
      simp only [blk, Option.map_some, ne_eq, Option.some.injEq] at n1 n2
      have ho2 := (ho.set q iA).below (below_drewn _ 1)
      have hw2 := (Below.setCell hw (p := ⟨w.heap.size + 2, q, none⟩) (by simp) (.int .i64 u)).trans (below_drewn' _ _ 1)
      have X2 := (X.far (p := ⟨w.heap.size + 2, q, none⟩) n1 (.int .i64 u)).after (below_drewn _ 1)
      have R2 := (R.far (p := ⟨w.heap.size + 2, q, none⟩) n2 (.int .i64 u)).after (below_drewn _ 1)
      rw [← hst.out] at ho2
      clear ho hw X R
      go_roundw
      case rel => exact ⟨k + 1, by omega, by go_num, ho2, hw2, X2, R2⟩
      case measure => simp [intOf]; omega
    · obtain rfl : k = n := by omega
      have rX := RG.mk (ho.reads) (RE.nil_ wr none)
      rw [show relTo cs p k = relC cs p from by rw [relC, hla.out]] at rX ho
      have ht := l21Table_any (some ⟨w.heap.size + 2, 0, none⟩) k k none 0 0 (relC cs p) [] wr rX hn (by omega) (fun j hj => by simp at hj)
      clear rX hmk
      go_wp2_with (go_at_call 69; refine ht.mono ?_; rintro e w1 ⟨T, q, rfl, hT, hb2⟩)
      have e0 : nbB [] = relB (es.take 0) p := by funext a b; simp [nbB, relB]
      rw [e0] at hT
      have hsz := hw.size
      obtain ⟨vs, hv0⟩ := hT.more hsz
      have ho0 := ho.below hb2
      have hw0 := hw.trans (hb2.mono hsz)
      have X0 := X.after hb2
      have R0 := R.after hb2
      clear ho hw X R hT ht hb2 e0
      have hcq := hv0.os.cap
      obtain ⟨ii, hi, hi0, hi1, hi2⟩ := info_parts edge_info
      go_wp2
      go_loopw [8] (fun i wr => ∃ (j : Nat), j ≤ m ∧ i = .int .i64 j ∧ TBv wr w.heap.size 111 4 T k q vs k (relB (es.take j) p) ∧ OI wr w.heap.size 2 (some ⟨w.heap.size + 2, 0, none⟩) k k (relC cs p) ∧ Below w.heap.size w wr ∧ Blk wr w.heap.size 27 #[.slice A k c, .slice F m d] ∧ Blk wr (w.heap.size + 1) 27 #[.slice none 0 0, .slice none 0 0]) (fun i _ => m - (intOf i).toNat)
      case atStart => exact ⟨0, Nat.zero_le _, rfl, hv0, ho0, hw0, X0, R0⟩
      case round =>
        clear hv0 ho0 hw0 X0 R0
        obtain ⟨j, hj, rfl, hv, ho, hw, X, R⟩ := hrel
        by_cases hjm : j < m
        · obtain ⟨ge, oe, rfl, ce1, ce2, i1, i2⟩ := ha.re.get hjm
          obtain ⟨x, y, hx, hy, hxn, hyn⟩ := HE.out j (by rw [hle.out]; exact hjm)
          obtain ⟨px, hpx, hpxn⟩ := HP.out x hxn
          obtain ⟨py, hpy, hpyn⟩ := HP.out y hyn
          have hst := Lib.hid (relB_step (es := es) (k := j) (by rw [hle.out]; exact hjm) hx hy hpx hpy)
          obtain ⟨aP, rfl, hcX, -⟩ := hP.get hxn
          obtain ⟨aP', hq', hcY, -⟩ := hP.get hyn
          cases hq'
          rw [hpx] at hcX
          rw [hpy] at hcY
          rw [hx] at ce1
          rw [hy] at ce2
          clear i1 i2 hx hy hpx hpy
          have c1 := below_cell hw ce1
          have c2 := below_cell hw ce2
          have f1 := X.cells2.2
          have hb1 := below_alloc wr (.cells #[.int .i64 (x : Int), .int .i64 (y : Int)] 65)
          have hv1 := hv.below hb1
          have ho1 := ho.below hb1
          have hw1 := hw.alloc hw.size (.cells #[.int .i64 (x : Int), .int .i64 (y : Int)] 65)
          have X1 := X.after hb1
          have R1 := R.after hb1
          have E1 := Blk.new wr 65 #[.int .i64 (x : Int), .int .i64 (y : Int)]
          clear hv hw X R ho ce1 ce2 hb1
          go_wp2
          clear c1 c2 f1
          generalize wr.alloc (.cells #[.int .i64 (x : Int), .int .i64 (y : Int)] 65) = W at *
          generalize wr.heap.size = eb at *
          obtain ⟨e10, e11⟩ := E1.cells2
          obtain ⟨g, r, kk, hgT, d1, d2, d3, d4, d5, d6, d7, ⟨_, rfl, d8⟩, hs⟩ := hv1.at_ hpxn hpyn
          cases hgT
          have a1 := below_cell hw1 hcX
          have a2 := below_cell hw1 hcY
          refine region_last (P := Tryz.prog) (S := fun w' => w'.cell? ⟨eb, 0, none⟩ = some (.int .i64 (x : Int)) ∧ w'.cell? ⟨eb, 1, none⟩ = some (.int .i64 (y : Int)) ∧ w'.cell? ⟨g, px, none⟩ = some (.slice (some ⟨r, 0, none⟩) k kk) ∧ w'.cell? (aP.add x) = some (.int .i64 (px : Int)) ∧ w'.cell? (aP.add y) = some (.int .i64 (py : Int))) (by kernel_rfl) (by simp only [List.getLast?_cons_cons, List.getLast?_singleton]; rfl) (by dsimp only [List.dropLast]) (by kernel_rfl) ⟨by simpa using e10, by simpa using e11, by simpa using d1, by simpa using a1, by simpa using a2⟩ ?_
          intro hS
          refine wpAnyH_take (i := 0) (v := ?_) rfl (by kernel_rfl) (by kernel_rfl) (by kernel_rfl) (fun _ _ _ h => h) (Or.inl ⟨by rfl, ?_⟩) (by assumption) ?_
          rotate_left
          · (intro w hSw; (try dsimp only at hSw); go_simp; (try with_reducible rfl))
          simp only [Act.put, List.setIfInBounds_toArray, List.set_cons_zero, List.set_cons_succ]
          refine wpAnyH_take (i := 1) (v := ?_) rfl (by kernel_rfl) (by kernel_rfl) (by kernel_rfl) (fun _ _ _ h => h) (Or.inl ⟨by rfl, ?_⟩) (by assumption) ?_
          rotate_left
          · (intro w hSw; (try dsimp only at hSw); go_simp; (try with_reducible rfl))
          simp only [Act.put, List.setIfInBounds_toArray, List.set_cons_zero, List.set_cons_succ]
          refine wpAnyH_take (i := 2) (v := ?_) rfl (by kernel_rfl) (by kernel_rfl) (by kernel_rfl) (fun _ _ _ h => h) (Or.inl ⟨by rfl, ?_⟩) (by assumption) ?_
          rotate_left
          · (intro w hSw; (try dsimp only at hSw); go_simp; (try with_reducible rfl))
          simp only [Act.put, List.setIfInBounds_toArray, List.set_cons_zero, List.set_cons_succ]
          refine wpAnyH_take (i := 3) (v := ?_) rfl (by kernel_rfl) (by kernel_rfl) (by kernel_rfl) (fun _ _ _ h => h) (Or.inl ⟨by rfl, ?_⟩) (by assumption) ?_
          rotate_left
          · (intro w hSw; (try dsimp only at hSw); go_simp; (try with_reducible rfl))
          simp only [Act.put, List.setIfInBounds_toArray, List.set_cons_zero, List.set_cons_succ]
          refine wpAnyH_take (i := 4) (v := ?_) rfl (by kernel_rfl) (by kernel_rfl) (by kernel_rfl) (fun _ _ _ h => h) (Or.inl ⟨by rfl, ?_⟩) (by assumption) ?_
          rotate_left
          · (intro w hSw; (try dsimp only at hSw); go_simp; (try with_reducible rfl))
          simp only [Act.put, List.setIfInBounds_toArray, List.set_cons_zero, List.set_cons_succ]
          refine wpAnyH_take (i := 5) (v := ?_) rfl (by kernel_rfl) (by kernel_rfl) (by kernel_rfl) (fun _ _ _ h => h) (Or.inl ⟨by rfl, ?_⟩) (by assumption) ?_
          rotate_left
          · (intro w hSw; (try dsimp only at hSw); go_simp; (try with_reducible rfl))
          simp only [Act.put, List.setIfInBounds_toArray, List.set_cons_zero, List.set_cons_succ]
          refine wpAnyH_take (i := 6) (v := ?_) rfl (by kernel_rfl) (by kernel_rfl) (by kernel_rfl) (fun _ _ _ h => h) (Or.inl ⟨by rfl, ?_⟩) (by assumption) ?_
          rotate_left
          · (intro w hSw; (try dsimp only at hSw); go_simp; (try with_reducible rfl))
          simp only [Act.put, List.setIfInBounds_toArray, List.set_cons_zero, List.set_cons_succ]
          refine wpAnyH_take (i := 7) (v := ?_) rfl (by kernel_rfl) (by kernel_rfl) (by kernel_rfl) (fun _ _ _ h => h) (Or.inl ⟨by rfl, ?_⟩) (by assumption) ?_
          rotate_left
          · (intro w hSw; (try dsimp only at hSw); go_simp; (try with_reducible rfl))
          simp only [Act.put, List.setIfInBounds_toArray, List.set_cons_zero, List.set_cons_succ]
          refine wpAnyH_take (i := 8) (v := ?_) rfl (by kernel_rfl) (by kernel_rfl) (by kernel_rfl) (fun _ _ _ h => h) (Or.inl ⟨by rfl, ?_⟩) (by assumption) ?_
          rotate_left
          · (intro w hSw; (try dsimp only at hSw); go_simp; (try with_reducible rfl))
          simp only [Act.put, List.setIfInBounds_toArray, List.set_cons_zero, List.set_cons_succ]
          refine wpAnyH_take (i := 9) (v := ?_) rfl (by kernel_rfl) (by kernel_rfl) (by kernel_rfl) (fun _ _ _ h => h) (Or.inl ⟨by rfl, ?_⟩) (by assumption) ?_
          rotate_left
          · (intro w hSw; (try dsimp only at hSw); go_simp; (try with_reducible rfl))
          simp only [Act.put, List.setIfInBounds_toArray, List.set_cons_zero, List.set_cons_succ]
          refine wpAnyH_take (i := 10) (v := ?_) rfl (by kernel_rfl) (by kernel_rfl) (by kernel_rfl) (fun _ _ _ h => h) (Or.inl ⟨by rfl, ?_⟩) (by assumption) ?_
          rotate_left
          · (intro w hSw; (try dsimp only at hSw); go_simp; (try with_reducible rfl))
          simp only [Act.put, List.setIfInBounds_toArray, List.set_cons_zero, List.set_cons_succ]
          refine wpAnyH_take (i := 11) (v := ?_) rfl (by kernel_rfl) (by kernel_rfl) (by kernel_rfl) (fun _ _ _ h => h) (Or.inl ⟨by rfl, ?_⟩) (by assumption) ?_
          rotate_left
          · (intro w hSw; (try dsimp only at hSw); go_simp; (try with_reducible rfl))
          simp only [Act.put, List.setIfInBounds_toArray, List.set_cons_zero, List.set_cons_succ]
          refine wpAnyH_take (i := 12) (v := ?_) rfl (by kernel_rfl) (by kernel_rfl) (by kernel_rfl) (fun _ _ _ h => h) (Or.inl ⟨by rfl, ?_⟩) (by assumption) ?_
          rotate_left
          · (intro w hSw; (try dsimp only at hSw); go_simp; (try with_reducible rfl))
          simp only [Act.put, List.setIfInBounds_toArray, List.set_cons_zero, List.set_cons_succ]
          refine wpAnyH_take (i := 13) (v := ?_) rfl (by kernel_rfl) (by kernel_rfl) (by kernel_rfl) (fun _ _ _ h => h) (Or.inl ⟨by rfl, ?_⟩) (by assumption) ?_
          rotate_left
          · (intro w hSw; (try dsimp only at hSw); go_simp; (try with_reducible rfl))
          simp only [Act.put, List.setIfInBounds_toArray, List.set_cons_zero, List.set_cons_succ]
          refine wpAnyH_done (by kernel_rfl) ?_ _
          dsimp only [atEnd]
          clear hS a1 a2 e10 e11 d1
          go_wp2
          have n1 := OS.typed' d8 E1 (by decide)
          have n2 := OS.typed' d8 X1 (by decide)
          have n3 := OS.typed' d8 R1 (by decide)
          have n4 := OS.typed ho1.os d8 (by decide)
          simp only [blk, Option.map_some, ne_eq, Option.some.injEq] at n1 n2 n3
          have ho2 := (ho1.kept (grown_set (g := r) (p := py) (u := .bool true)) n4).below (below_drewn _ 1)
          have hv2 := (hs true).below (below_drewn _ 1)
          have hw2 := (Below.setCell hw1 (p := ⟨r, py, none⟩) d6 (.bool true)).trans (below_drewn' _ _ 1)
          have X2 := (X1.far (p := ⟨r, py, none⟩) n2 (.bool true)).after (below_drewn _ 1)
          have R2 := (R1.far (p := ⟨r, py, none⟩) n3 (.bool true)).after (below_drewn _ 1)
          have E2 := (E1.far (p := ⟨r, py, none⟩) n1 (.bool true)).after (below_drewn _ 1)
          simp only [← World.drew_is_drewN] at hv2 hw2 X2 E2 ho2 R2
          clear hs hv1 hw1 X1 E1 R1 ho1 d2 d3 d4 d5 d6 d7 d8 n1 n2 n3 n4
          generalize World.drew (World.setCell _ _ _) = W2 at *
          have hv1 := hv2
          have hw1 := hw2
          have ho1 := ho2
          have X1 := X2
          have R1 := R2
          have E1 := E2
          clear hv2 hw2 ho2 X2 R2 E2
          obtain ⟨e10, e11⟩ := E1.cells2
          obtain ⟨g, r, kk, hgT, d1, d2, d3, d4, d5, d6, d7, ⟨_, rfl, d8⟩, hs⟩ := hv1.at_ hpyn hpxn
          cases hgT
          have a1 := below_cell hw1 hcX
          have a2 := below_cell hw1 hcY
          refine region_last (P := Tryz.prog) (S := fun w' => w'.cell? ⟨eb, 0, none⟩ = some (.int .i64 (x : Int)) ∧ w'.cell? ⟨eb, 1, none⟩ = some (.int .i64 (y : Int)) ∧ w'.cell? ⟨g, py, none⟩ = some (.slice (some ⟨r, 0, none⟩) k kk) ∧ w'.cell? (aP.add x) = some (.int .i64 (px : Int)) ∧ w'.cell? (aP.add y) = some (.int .i64 (py : Int))) (by kernel_rfl) (by simp only [List.getLast?_cons_cons, List.getLast?_singleton]; rfl) (by dsimp only [List.dropLast]) (by kernel_rfl) ⟨by simpa using e10, by simpa using e11, by simpa using d1, by simpa using a1, by simpa using a2⟩ ?_
          intro hS
          refine wpAnyH_take (i := 0) (v := ?_) rfl (by kernel_rfl) (by kernel_rfl) (by kernel_rfl) (fun _ _ _ h => h) (Or.inl ⟨by rfl, ?_⟩) (by assumption) ?_
          rotate_left
          · (intro w hSw; (try dsimp only at hSw); go_simp; (try with_reducible rfl))
          simp only [Act.put, List.setIfInBounds_toArray, List.set_cons_zero, List.set_cons_succ]
          refine wpAnyH_take (i := 1) (v := ?_) rfl (by kernel_rfl) (by kernel_rfl) (by kernel_rfl) (fun _ _ _ h => h) (Or.inl ⟨by rfl, ?_⟩) (by assumption) ?_
          rotate_left
          · (intro w hSw; (try dsimp only at hSw); go_simp; (try with_reducible rfl))
          simp only [Act.put, List.setIfInBounds_toArray, List.set_cons_zero, List.set_cons_succ]
          refine wpAnyH_take (i := 2) (v := ?_) rfl (by kernel_rfl) (by kernel_rfl) (by kernel_rfl) (fun _ _ _ h => h) (Or.inl ⟨by rfl, ?_⟩) (by assumption) ?_
          rotate_left
          · (intro w hSw; (try dsimp only at hSw); go_simp; (try with_reducible rfl))
          simp only [Act.put, List.setIfInBounds_toArray, List.set_cons_zero, List.set_cons_succ]
          refine wpAnyH_take (i := 3) (v := ?_) rfl (by kernel_rfl) (by kernel_rfl) (by kernel_rfl) (fun _ _ _ h => h) (Or.inl ⟨by rfl, ?_⟩) (by assumption) ?_
          rotate_left
          · (intro w hSw; (try dsimp only at hSw); go_simp; (try with_reducible rfl))
          simp only [Act.put, List.setIfInBounds_toArray, List.set_cons_zero, List.set_cons_succ]
          refine wpAnyH_take (i := 4) (v := ?_) rfl (by kernel_rfl) (by kernel_rfl) (by kernel_rfl) (fun _ _ _ h => h) (Or.inl ⟨by rfl, ?_⟩) (by assumption) ?_
          rotate_left
          · (intro w hSw; (try dsimp only at hSw); go_simp; (try with_reducible rfl))
          simp only [Act.put, List.setIfInBounds_toArray, List.set_cons_zero, List.set_cons_succ]
          refine wpAnyH_take (i := 5) (v := ?_) rfl (by kernel_rfl) (by kernel_rfl) (by kernel_rfl) (fun _ _ _ h => h) (Or.inl ⟨by rfl, ?_⟩) (by assumption) ?_
          rotate_left
          · (intro w hSw; (try dsimp only at hSw); go_simp; (try with_reducible rfl))
          simp only [Act.put, List.setIfInBounds_toArray, List.set_cons_zero, List.set_cons_succ]
          refine wpAnyH_take (i := 6) (v := ?_) rfl (by kernel_rfl) (by kernel_rfl) (by kernel_rfl) (fun _ _ _ h => h) (Or.inl ⟨by rfl, ?_⟩) (by assumption) ?_
          rotate_left
          · (intro w hSw; (try dsimp only at hSw); go_simp; (try with_reducible rfl))
          simp only [Act.put, List.setIfInBounds_toArray, List.set_cons_zero, List.set_cons_succ]
          refine wpAnyH_take (i := 7) (v := ?_) rfl (by kernel_rfl) (by kernel_rfl) (by kernel_rfl) (fun _ _ _ h => h) (Or.inl ⟨by rfl, ?_⟩) (by assumption) ?_
          rotate_left
          · (intro w hSw; (try dsimp only at hSw); go_simp; (try with_reducible rfl))
          simp only [Act.put, List.setIfInBounds_toArray, List.set_cons_zero, List.set_cons_succ]
          refine wpAnyH_take (i := 8) (v := ?_) rfl (by kernel_rfl) (by kernel_rfl) (by kernel_rfl) (fun _ _ _ h => h) (Or.inl ⟨by rfl, ?_⟩) (by assumption) ?_
          rotate_left
          · (intro w hSw; (try dsimp only at hSw); go_simp; (try with_reducible rfl))
          simp only [Act.put, List.setIfInBounds_toArray, List.set_cons_zero, List.set_cons_succ]
          refine wpAnyH_take (i := 9) (v := ?_) rfl (by kernel_rfl) (by kernel_rfl) (by kernel_rfl) (fun _ _ _ h => h) (Or.inl ⟨by rfl, ?_⟩) (by assumption) ?_
          rotate_left
          · (intro w hSw; (try dsimp only at hSw); go_simp; (try with_reducible rfl))
          simp only [Act.put, List.setIfInBounds_toArray, List.set_cons_zero, List.set_cons_succ]
          refine wpAnyH_take (i := 10) (v := ?_) rfl (by kernel_rfl) (by kernel_rfl) (by kernel_rfl) (fun _ _ _ h => h) (Or.inl ⟨by rfl, ?_⟩) (by assumption) ?_
          rotate_left
          · (intro w hSw; (try dsimp only at hSw); go_simp; (try with_reducible rfl))
          simp only [Act.put, List.setIfInBounds_toArray, List.set_cons_zero, List.set_cons_succ]
          refine wpAnyH_take (i := 11) (v := ?_) rfl (by kernel_rfl) (by kernel_rfl) (by kernel_rfl) (fun _ _ _ h => h) (Or.inl ⟨by rfl, ?_⟩) (by assumption) ?_
          rotate_left
          · (intro w hSw; (try dsimp only at hSw); go_simp; (try with_reducible rfl))
          simp only [Act.put, List.setIfInBounds_toArray, List.set_cons_zero, List.set_cons_succ]
          refine wpAnyH_take (i := 12) (v := ?_) rfl (by kernel_rfl) (by kernel_rfl) (by kernel_rfl) (fun _ _ _ h => h) (Or.inl ⟨by rfl, ?_⟩) (by assumption) ?_
          rotate_left
          · (intro w hSw; (try dsimp only at hSw); go_simp; (try with_reducible rfl))
          simp only [Act.put, List.setIfInBounds_toArray, List.set_cons_zero, List.set_cons_succ]
          refine wpAnyH_take (i := 13) (v := ?_) rfl (by kernel_rfl) (by kernel_rfl) (by kernel_rfl) (fun _ _ _ h => h) (Or.inl ⟨by rfl, ?_⟩) (by assumption) ?_
          rotate_left
          · (intro w hSw; (try dsimp only at hSw); go_simp; (try with_reducible rfl))
          simp only [Act.put, List.setIfInBounds_toArray, List.set_cons_zero, List.set_cons_succ]
          refine wpAnyH_done (by kernel_rfl) ?_ _
          dsimp only [atEnd]
          clear hS a1 a2 e10 e11 d1
          go_wp2
          have n1 := OS.typed' d8 E1 (by decide)
          have n2 := OS.typed' d8 X1 (by decide)
          have n3 := OS.typed' d8 R1 (by decide)
          have n4 := OS.typed ho1.os d8 (by decide)
          simp only [blk, Option.map_some, ne_eq, Option.some.injEq] at n1 n2 n3
          have ho2 := (ho1.kept (grown_set (g := r) (p := px) (u := .bool true)) n4).below (below_drewn _ 1)
          have hv2 := (hs true).below (below_drewn _ 1)
          have hw2 := (Below.setCell hw1 (p := ⟨r, px, none⟩) d6 (.bool true)).trans (below_drewn' _ _ 1)
          have X2 := (X1.far (p := ⟨r, px, none⟩) n2 (.bool true)).after (below_drewn _ 1)
          have R2 := (R1.far (p := ⟨r, px, none⟩) n3 (.bool true)).after (below_drewn _ 1)
          have E2 := (E1.far (p := ⟨r, px, none⟩) n1 (.bool true)).after (below_drewn _ 1)
          simp only [← World.drew_is_drewN] at hv2 hw2 X2 E2 ho2 R2
          clear hs hv1 hw1 X1 E1 R1 ho1 d2 d3 d4 d5 d6 d7 d8 n1 n2 n3 n4
          go_roundw
          case rel => exact ⟨j + 1, by omega, by go_num, by rw [← funext fun a => funext fun b => hst.out a b]; exact hv2, ho2, hw2, X2, R2⟩
          case measure => simp [intOf]; omega
        · obtain rfl : j = m := by omega
          rw [List.take_of_length_le (by rw [hle.out]; omega)] at hv
          have hof := l21Of_any (some ⟨w.heap.size + 2, 0, none⟩) k k (relC cs p) T q w.heap.size (relB es p) wr ho.reads hn ⟨vs, hv⟩
          have f1 := X.cells2.2
          have hsz := hw.size
          have hRl := R.lt
          clear hv
          go_wp2_with (go_at_call 70; refine hof.mono ?_; rintro e w4 ⟨A4, n4, c4, F4, m4, d4, rfl, hG, hb4⟩; have R4 := R.after hb4; have f0 := R4.frozen 0; have f1 := R4.frozen 1; have r0 := R4.cells2.1; have r1 := R4.cells2.2)
          have hw4 := hw.trans (hb4.mono hsz)
          have R5 := (R4.set_ 0 (.slice A4 n4 c4)).set_ 1 (.slice F4 m4 d4)
          have o1 := ((hG.oi.setLow (p := ⟨w.heap.size + 1, 0, none⟩) hRl (.slice A4 n4 c4)).setLow (p := ⟨w.heap.size + 1, 1, none⟩) hRl (.slice F4 m4 d4)).more hsz
          have o2 := ((hG.oe.setLow (p := ⟨w.heap.size + 1, 0, none⟩) hRl (.slice A4 n4 c4)).setLow (p := ⟨w.heap.size + 1, 1, none⟩) hRl (.slice F4 m4 d4)).more hsz
          have hw5 := Below.setCell (Below.setCell hw4 (p := ⟨w.heap.size + 1, 0, none⟩) (by simp) (.slice A4 n4 c4)) (p := ⟨w.heap.size + 1, 1, none⟩) (by simp) (.slice F4 m4 d4)
          rw [← HT.out] at o2
          clear hG hof ho X hw hw4
          clear r0 r1
          obtain ⟨r0, r1⟩ := R5.cells2
          exact bodyPost_ret (v := .agg #[.slice A4 n4 c4, .slice F4 m4 d4]) (by simp [results, Tryz.results122, go_sem, r0, r1]) rfl ⟨A4, n4, c4, F4, m4, d4, rfl, OG.of o1 o2, hw5⟩
end Go.Proofs.YtkihflnenifcgaaGreatDoor
