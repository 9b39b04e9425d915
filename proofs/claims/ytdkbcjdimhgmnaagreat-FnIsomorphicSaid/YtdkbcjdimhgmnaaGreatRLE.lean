/- Blocks that a law draws. No condition beyond those stated. -/
import Derived.Test.YtdkbcjdimhgmnaaGreatRLD
import Derived.Test.YtdkbcjdimhgmnaaGreatRIK
set_option linter.unusedVariables false
set_option linter.unusedSimpArgs false
namespace Go.Proofs.YtdkbcjdimhgmnaaGreat
open Go.RowKit
def SmB (pts : Nat) (r : List Int) : Prop := 1 ≤ r.length ∧ r.length ≤ 4 ∧ ∀ x ∈ r, 0 ≤ x ∧ x < (pts : Int)
def SmBs (pts : Nat) (zss : List (List Int)) : Prop := ∀ r ∈ zss, SmB pts r
theorem SmBs.snoc {pts : Nat} {zss : List (List Int)} {r : List Int} (h : SmBs pts zss) (hr : SmB pts r) : SmBs pts (zss ++ [r]) := fun x hx => by
  rcases List.mem_append.1 hx with hx | hx
  · exact h x hx
  · rw [List.mem_singleton.1 hx]; exact hr
theorem putG_pos {l : List Int} {x : Int} : 1 ≤ (putG sgnI l x).length := by
  have : x ∈ putG sgnI l x := (putG_mem sgnI_ord l x x).2 (.inl rfl)
  exact List.length_pos_of_mem this
structure DBs (w wr : World) (g q : Nat) (A : Option Addr) (k c : Nat) (zss : List (List Int)) : Prop where
  o : OR wr w.heap.size 22 2 A k c zss
  s : SrW w wr g q
section
variable {w wr w' : World} {g q q' : Nat} {A : Option Addr} {k c : Nat} {zss : List (List Int)}
theorem DBs.draw (h : DBs w wr g q A k c zss) (hs : Src w' g q') (hg : wr.grownBy w' (some g)) : DBs w w' g q' A k c zss := ⟨h.o.keptB hg h.s.gl, h.s.next hs hg⟩
end
structure DBv (w wr : World) (g q : Nat) (A : Option Addr) (k c : Nat) (vs : List Sl) (zss : List (List Int)) : Prop where
  o : ORv wr w.heap.size 22 2 A k c vs zss
  s : SrW w wr g q
section
variable {w wr w' : World} {g q q' : Nat} {A : Option Addr} {k c : Nat} {vs : List Sl} {zss : List (List Int)}
theorem DBs.v (h : DBs w wr g q A k c zss) : ∃ vs, DBv w wr g q A k c vs zss := by
  obtain ⟨⟨vs, ho⟩, s⟩ := h
  exact ⟨vs, ho, s⟩
theorem DBv.draw (h : DBv w wr g q A k c vs zss) (hs : Src w' g q') (hg : wr.grownBy w' (some g)) : DBv w w' g q' A k c vs zss := ⟨h.o.keptB hg h.s.gl, h.s.next hs hg⟩
theorem DBv.step (h : DBv w wr g q A k c vs zss) (hb : Below wr.heap.size wr w') : DBv w w' g q A k c vs zss := ⟨h.o.below hb, h.s.step hb⟩
def ApR (vs : List Sl) (Z : Option Addr) (zn zc : Nat) : Prop := ∀ (j : Nat) (u : Sl), vs[j]? = some u → apart u (Z, zn, zc)
theorem DBv.new (h : DBv w wr g q A k c vs zss) {Z : Option Addr} {zn zc : Nat} (hb : ∀ b, blk Z = some b → wr.heap.size ≤ b) : ApR vs Z zn zc := h.o.apart_new (v := (Z, zn, zc)) hb
theorem DBv.push (h : DBv w wr g q A k c vs zss) {A' : Option Addr} {k' c' : Nat} {vs' : List Sl} {zs' : List (List Int)} (ho : ORv w' w.heap.size 22 2 A' k' c' vs' zs') (hg : wr.grownBy w' (blk A)) : DBs w w' g q A' k' c' zs' :=
  ⟨⟨_, ho⟩, h.s.far hg (fun b hb => (h.o.os.lt hb).1)⟩
end
set_option maxRecDepth 100000 in
set_option maxHeartbeats 1000000 in
theorem l10DrawBlocks_any (g p pts : Nat) (w : World) (hs : Src w g p) (hp : p ≤ 140737488355328) (h1 : 1 ≤ pts) (h2 : pts ≤ 60000) :
    Calls Tryz.prog 128 #[.pointer (some ⟨g, 0, none⟩), .int .i64 pts] w (fun e w' => ∃ A k c zss q, e = .returned (.slice A k c) ∧ DBs w w' g q A k c zss ∧ SmBs pts zss ∧ k ≤ 8 ∧ q ≤ p + 100) := by
  have S0 := SrW.start hs
  have hb0 := below_alloc w (.cells #[] 22)
  have ho0 := OR.of_own (e1 := 2) (OS.lit w w.heap.size 22 1 0 #[] (Nat.le_refl _) rfl (by omega)) (by decide)
  have D : DBs w (w.alloc (.cells #[] 22)) g p (some ⟨w.heap.size, 0, none⟩) 0 0 [] := ⟨ho0, S0.step hb0⟩
  clear S0 hb0 ho0 hs
  go_enter Tryz.func128, Tryz.ntmps128
  go_wp2_with fail
  refine (pick_any g p 9 _ D.s.src (by omega) (by omega) (by omega)).mono ?_
  rintro e w2 ⟨n, q2, rfl, n0, n1, hq2, hs2, hg2⟩
  have D := D.draw hs2 hg2
  clear hs2 hg2
  obtain ⟨n, rfl⟩ := Int.eq_ofNat_of_zero_le n0
  go_wp2
  go_loopw [5, 6] (fun ov nv wr => ∃ (m : Nat) (A : Option Addr) (k c q : Nat) (zss : List (List Int)), m ≤ n ∧ nv = .int .i64 m ∧ ov = .slice A k c ∧ DBs w wr g q A k c zss ∧ SmBs pts zss ∧ k + m ≤ 8 ∧ q + 11 * m ≤ p + 91) (fun _ nv _ => (intOf nv).toNat)
  case atStart => exact ⟨n, _, 0, 0, q2, [], Nat.le_refl _, rfl, rfl, D, fun r hr => absurd hr (by simp), by omega, by omega⟩
  case round =>
    clear D hq2
    obtain ⟨m, A, k, c, q, zss, hm, rfl, rfl, D, HB, hkm, hq⟩ := hrel
    have HB := Lib.hid HB
    by_cases hm0 : 0 < m
    · go_wp2_with fail
      refine (pick_any g q pts _ D.s.src (by omega) (by omega) (by omega)).mono ?_
      rintro e w3 ⟨x, q3, rfl, x0, x1, hq3, hs3, hg3⟩
      have D := D.draw hs3 hg3
      obtain ⟨vs, D⟩ := D.v
      have hx : I64 x := ⟨by omega, by omega⟩
      have ho : OI (w3.alloc (.cells (ints [x]).toArray 2)) w.heap.size 2 (some ⟨w3.heap.size, 0, none⟩) 1 1 [x] := OI.lit w3 w.heap.size 2 [x] D.s.size (by simp) (All64.one hx)
      have hap : Hid (ApR vs (some ⟨w3.heap.size, 0, none⟩) 1 1) := Lib.hid (D.new (fun b hb => by simp [blk] at hb; omega))
      have hsm : Hid (SmB pts [x]) := Lib.hid ⟨by simp, by simp, fun y hy => by rw [List.mem_singleton.1 hy]; exact ⟨x0, by omega⟩⟩
      have D := D.step (below_alloc w3 (.cells (ints [x]).toArray 2))
      clear hs3 hg3
      go_wp2_with fail
      refine (pick_any g q3 4 _ D.s.src (by omega) (by omega) (by omega)).mono ?_
      rintro e w4 ⟨d, q4, rfl, d0, d1, hq4, hs4, hg4⟩
      have ho := ho.keptB hg4 D.s.gl
      have D := D.draw hs4 hg4
      clear hs4 hg4 x0 x1
      obtain ⟨d, rfl⟩ := Int.eq_ofNat_of_zero_le d0
      generalize [x] = z at ho hsm
      clear hx
      go_wp2
      go_loopw [7, 8] (fun sv dv wr => ∃ (e : Nat) (Z : Option Addr) (zn zc q : Nat) (z : List Int), e ≤ d ∧ dv = .int .i64 e ∧ sv = .slice Z zn zc ∧ DBv w wr g q A k c vs zss ∧ OI wr w.heap.size 2 Z zn zc z ∧ Hid (SmB pts z) ∧ Hid (ApR vs Z zn zc) ∧ zn + e ≤ 4 ∧ q + 2 * e ≤ q4 + 6) (fun _ dv _ => (intOf dv).toNat)
      case atStart => exact ⟨d, _, 1, 1, q4, z, Nat.le_refl _, rfl, rfl, D, ho, hsm, hap, by omega, by omega⟩
      case round =>
        clear D ho hsm hap
        obtain ⟨e, Z, zn, zc, q5, z, he, rfl, rfl, D, ho, hsm, hap, hze, hq5⟩ := hrel
        by_cases he0 : 0 < e
        · go_wp2_with fail
          refine (pick_any g q5 pts _ D.s.src (by omega) (by omega) (by omega)).mono ?_
          rintro e' w5 ⟨x, q6, rfl, x0, x1, hq6, hs5, hg5⟩
          have ho := ho.keptB hg5 D.s.gl
          have D := D.draw hs5 hg5
          have hx : I64 x := ⟨by omega, by omega⟩
          clear hs5 hg5
          have hput := l00Put_any Z zn zc z x w5 ho.reads (by omega) hx
          have hsz := D.s.size
          go_wp2_with fail
          refine hput.mono ?_
          rintro e' w6 ⟨Z', zn', zc', rfl, ho', hb6⟩
          have hap2 : Hid (ApR vs Z' zn' zc') := Lib.hid (D.new (fun b hb => (ho'.os.lt hb).1))
          have D := D.step hb6
          have ho2 := ho'.more hsz
          have hle := putG_len (c := sgnI) z x
          have hzl := ho.len
          have hl' := ho'.len
          have hsm2 : Hid (SmB pts (putG sgnI z x)) := Lib.hid ⟨putG_pos, by omega, fun y hy => by
            rcases (putG_mem sgnI_ord z x y).1 hy with rfl | hy
            · exact ⟨x0, by omega⟩
            · exact hsm.out.2.2 y hy⟩
          clear ho ho' hb6 hput hsm hap x0 x1
          generalize putG sgnI z x = z' at *
          go_wp2
          go_roundw
          case rel => exact ⟨e - 1, Z', zn', zc', q6, z', by omega, by go_num, rfl, D, ho2, hsm2, hap2, by omega, by omega⟩
          case measure => simp [intOf]; omega
        · obtain rfl : e = 0 := by omega
          have hsz := D.s.size
          have hk8 : k ≤ 8 := by omega
          go_wp2_with (at_builtin; refine app_row _ rfl (.tmp 31) (.tmp 33) rfl w.heap.size A k c vs zss rfl D.o (Z, zn, zc) z ho hap.out _ rfl (by simp) (Nat.le_trans (Nat.succ_le_succ hk8) (by omega)) hsz ?_; intro A3 c3 w3 ho3 hg3 hf3)
          have D := D.push ho3 hg3
          have HB2 := HB.out.snoc hsm.out
          clear ho3 hg3 hf3 ho hap hsm
          go_roundw
          case rel => exact ⟨m - 1, A3, k + 1, c3, q5, _, by omega, by go_num, rfl, D, HB2, by omega, by omega⟩
          case measure => simp [intOf]; omega
    · obtain rfl : m = 0 := by omega
      go_wp2
      go_ret
      exact ⟨A, k, c, zss, q, rfl, D, HB.out, by omega, by omega⟩
def allocs (w : World) (t : TypeId) : List (List Int) → World
  | [] => w
  | r :: rs => allocs (w.alloc (.cells (ints r).toArray t)) t rs
theorem allocs_size (t : TypeId) : ∀ (rows : List (List Int)) (w : World), (allocs w t rows).heap.size = w.heap.size + rows.length
  | [], w => by simp [allocs]
  | r :: rs, w => by rw [allocs, allocs_size t rs]; simp; omega
theorem allocs_below (t : TypeId) : ∀ (rows : List (List Int)) (w : World), Below w.heap.size w (allocs w t rows)
  | [], w => Below.refl _ _
  | r :: rs, w => (below_alloc w _).trans ((allocs_below t rs _).mono (by simp))
theorem allocs_row (t : TypeId) (B : Nat) : ∀ (rows : List (List Int)) (w : World), B ≤ w.heap.size → (∀ r ∈ rows, All64 r ∧ r.length ≤ 1048576) → ∀ j r, rows[j]? = some r → OI (allocs w t rows) B t (some ⟨w.heap.size + j, 0, none⟩) r.length r.length r
  | [], w, _, _, j, r, h => by simp at h
  | s :: rs, w, hB, ha, 0, r, h => by
    obtain rfl : s = r := by simpa using h
    have := ha s List.mem_cons_self
    have h1 := OI.lit w B t s hB (by omega) this.1
    have h2 := h1.below (allocs_below t rs _)
    simpa [allocs] using h2
  | s :: rs, w, hB, ha, j + 1, r, h => by
    have h1 := allocs_row t B rs (w.alloc (.cells (ints s).toArray t)) (by simp; omega) (fun r hr => ha r (List.mem_cons_of_mem _ hr)) j r (by simpa using h)
    have e : (w.alloc (.cells (ints s).toArray t)).heap.size + j = w.heap.size + (j + 1) := by simp; omega
    rw [e] at h1
    exact h1
def hdrs (b : Nat) : List (List Int) → List Sl
  | [] => []
  | r :: rs => (some ⟨b, 0, none⟩, r.length, r.length) :: hdrs (b + 1) rs
theorem hdrs_len : ∀ (rows : List (List Int)) (b : Nat), (hdrs b rows).length = rows.length
  | [], _ => rfl
  | r :: rs, b => by simp [hdrs, hdrs_len rs]
theorem hdrs_at : ∀ (rows : List (List Int)) (b j : Nat) (v : Sl) (r : List Int), (hdrs b rows)[j]? = some v → rows[j]? = some r → v = (some ⟨b + j, 0, none⟩, r.length, r.length)
  | [], _, _, _, _, h, _ => by simp [hdrs] at h
  | s :: rs, b, 0, v, r, h, k => by
    obtain rfl : s = r := by simpa using k
    simpa [hdrs] using h.symm
  | s :: rs, b, j + 1, v, r, h, k => by
    have := hdrs_at rs (b + 1) j v r (by simpa [hdrs] using h) (by simpa using k)
    rw [this, show b + 1 + j = b + (j + 1) by omega]
theorem lit_OB (w : World) (B : Nat) (rows : List (List Int)) (hB : B ≤ w.heap.size) (hl : rows.length ≤ 1048576) (ha : ∀ r ∈ rows, All64 r ∧ r.length ≤ 1048576) :
    OB ((allocs w 2 rows).alloc (.cells ((hdrs w.heap.size rows).map slv).toArray 22)) B (some ⟨w.heap.size + rows.length, 0, none⟩) rows.length rows.length (hdrs w.heap.size rows) rows := by
  have hs := allocs_size 2 rows w
  refine ⟨?_, hdrs_len _ _, fun j v z hv hz => ?_⟩
  · have := OS.lit (allocs w 2 rows) B 22 1 rows.length ((hdrs w.heap.size rows).map slv).toArray (by omega) (by simp [hdrs_len]) (by omega)
    rw [hs] at this
    simpa using this
  · rw [hdrs_at rows _ j v z hv hz]
    exact (allocs_row 2 B rows w hB ha j z hz).below (below_alloc _ _)
def fano : List (List Int) := [[0, 1, 3], [1, 2, 4], [2, 3, 5], [3, 4, 6], [0, 4, 5], [1, 5, 6], [0, 2, 6]]
def prsB (a j : Nat) : List (List Int) := (List.range j).map fun d => [(a : Int), ((a + 1 + d : Nat) : Int)]
def prsA (n a : Nat) : List (List Int) := (List.range a).flatMap fun a => prsB a (n - a - 1)
def difP (m : Int) (base : List Int) (k : Nat) : List (List Int) := (List.range k).map fun (k : Nat) => setG sgnI (base.map fun x => (x + (k : Int)) % m)
theorem prsB_step (a j : Nat) : prsB a (j + 1) = prsB a j ++ [[(a : Int), ((a + 1 + j : Nat) : Int)]] := by simp [prsB, List.range_succ]
theorem prsA_step (n a : Nat) : prsA n (a + 1) = prsA n a ++ prsB a (n - a - 1) := by simp [prsA, List.range_succ, List.flatMap_append]
theorem difP_step (m : Int) (base : List Int) (k : Nat) : difP m base (k + 1) = difP m base k ++ [setG sgnI (base.map fun x => (x + (k : Int)) % m)] := by simp [difP, List.range_succ]
def KnownD (V : Int) (zss : List (List Int)) : Prop :=
  (V = 7 ∧ zss = srtR fano) ∨ (∃ n : Nat, 3 ≤ n ∧ n ≤ 6 ∧ V = n ∧ zss = srtR (prsA n n)) ∨ (V = 11 ∧ zss = srtR (difP 11 [1, 3, 4, 5, 9] 11)) ∨ (V = 13 ∧ zss = srtR (difP 13 [0, 1, 3, 9] 13))
def RetDs (Φ : Int → List (List Int) → Prop) (w : World) (g p k : Nat) (e : Ending) (w' : World) : Prop :=
  ∃ V A n c vs zss q, e = .returned (.agg #[.int .i64 V, .slice A n c]) ∧ OB w' w.heap.size A n c vs zss ∧ SrW w w' g q ∧ q ≤ p + k ∧ Φ V zss
theorem retD_put {Φ : Int → List (List Int) → Prop} {w w5 : World} {g p k q rb : Nat} {V : Int} {A : Option Addr} {n c : Nat} {vs : List Sl} {zss : List (List Int)} (R : Blk w5 rb 56 #[.int .i64 0, .slice none 0 0]) (hr : w.heap.size ≤ rb) {B : Nat} (hB : rb < B) (ho : OB w5 B A n c vs zss) (S : SrW w w5 g q) (hq : q ≤ p + k) (hP : Φ V zss) :
    w5.cell? ⟨rb, 0, none⟩ = some (.int .i64 0) ∧ w5.cell? ⟨rb, 1, none⟩ = some (.slice none 0 0) ∧ w5.frozen? ⟨rb, 0, none⟩ = false ∧ w5.frozen? ⟨rb, 1, none⟩ = false ∧
    ((w5.setCell ⟨rb, 0, none⟩ (.int .i64 V)).setCell ⟨rb, 1, none⟩ (.slice A n c)).cell? ⟨rb, 0, none⟩ = some (.int .i64 V) ∧
    ((w5.setCell ⟨rb, 0, none⟩ (.int .i64 V)).setCell ⟨rb, 1, none⟩ (.slice A n c)).cell? ⟨rb, 1, none⟩ = some (.slice A n c) ∧
    RetDs Φ w g p k (.returned (.agg #[.int .i64 V, .slice A n c])) ((w5.setCell ⟨rb, 0, none⟩ (.int .i64 V)).setCell ⟨rb, 1, none⟩ (.slice A n c)) := by
  have YF := (R.set_ 0 (.int .i64 V)).set_ 1 (.slice A n c)
  refine ⟨R.cell 0, R.cell 1, R.frozen 0, R.frozen 1, YF.cell 0, YF.cell 1, V, A, n, c, vs, zss, q, rfl, ?_, ?_, hq, hP⟩
  · exact ((ho.setLow (p := ⟨rb, 0, none⟩) hB _).setLow (p := ⟨rb, 1, none⟩) hB _).more (by omega)
  · exact (S.far grown_set (fun b e => by injection e with e; omega)).far grown_set (fun b e => by injection e with e; omega)
theorem OB.keptB {w w' : World} {B g : Nat} {A : Option Addr} {n c : Nat} {vs : List Sl} {zss : List (List Int)} (h : OB w B A n c vs zss) (hg : w.grownBy w' (some g)) (hb : g < B) : OB w' B A n c vs zss := by
  have far : ∀ {e : TypeId} {size : Nat} {A : Option Addr} {n c : Nat} {xs : List Value}, OS w B e size A n c xs → blk A = none ∨ blk A ≠ some g := fun {e size A n c xs} ho => by
    cases A with
    | none => exact .inl rfl
    | some a => exact .inr fun e => by have := (ho.lt (k := a.block) rfl).1; simp only [blk, Option.map_some, Option.some.injEq] at e; omega
  exact ⟨h.os.kept hg (far h.os), h.len, fun j v z hv hz => (h.rows j v z hv hz).keptB hg hb⟩
theorem prs_rows (a k : Nat) (_ : a ≤ 6) : ∀ i, i < k → (row (prsA a a) i).length ≤ 1048576 := fun i _ => by
  by_cases h : i < (prsA a a).length
  · rw [row_get h]
    have := List.getElem_mem h
    unfold prsA at this
    obtain ⟨x, _, hx⟩ := List.mem_flatMap.1 this
    obtain ⟨y, _, hy⟩ := List.mem_map.1 hx
    unfold prsA
    rw [← hy]
    simp
  · simp [row, List.getD, List.getElem?_eq_none (Nat.le_of_not_lt h)]
set_option maxRecDepth 100000 in
set_option maxHeartbeats 1000000 in
theorem l10Known_any (g p : Nat) (w : World) (hs : Src w g p) (hp : p ≤ 140737488355328) :
    Calls Tryz.prog 220 #[.pointer (some ⟨g, 0, none⟩)] w (RetDs KnownD w g p 10) := by
  have S := SrW.start hs
  have R := Blk.new w 56 #[.int .i64 0, .slice none 0 0]
  have S := S.step (below_alloc w (.cells #[.int .i64 0, .slice none 0 0] 56))
  have F := lit_OB (w.alloc (.cells #[.int .i64 0, .slice none 0 0] 56)) (w.heap.size + 1) fano (by simp) (by decide) (fun r hr => by
    simp only [fano, List.mem_cons, List.not_mem_nil, or_false] at hr
    rcases hr with rfl | rfl | rfl | rfl | rfl | rfl | rfl <;> exact ⟨fun x hx => by simp at hx; unfold I64; omega, by decide⟩)
  have b1 := allocs_below 2 fano (w.alloc (.cells #[.int .i64 0, .slice none 0 0] 56))
  have b2 := below_then b1 (below_alloc _ (.cells ((hdrs (w.alloc (.cells #[.int .i64 0, .slice none 0 0] 56)).heap.size fano).map slv).toArray 22))
  have R := R.after b2
  have S := S.step b2
  have hgl := S.gl
  clear b1 b2 hs
  rw [show (w.alloc (.cells #[.int .i64 0, .slice none 0 0] 56)).heap.size = w.heap.size + 1 by simp] at F R S
  rw [show w.heap.size + 1 + fano.length = w.heap.size + 1 + 1 + 1 + 1 + 1 + 1 + 1 + 1 by simp [fano]] at F
  rw [show fano.length = 7 by rfl] at F
  have HP := Lib.hid (pick_any g p 4 _ S.src (by omega) (by omega) (by omega))
  have HG := Lib.hid (fun (w2 : World) (hg : World.grownBy _ w2 (some g)) => F.keptB hg (Nat.lt_succ_of_lt hgl))
  have HR' := Lib.hid (fun (w2 : World) (hg : World.grownBy _ w2 (some g)) => R.grown hg (fun e => by injection e with e; omega))
  have HS := Lib.hid (fun (w2 : World) (q : Nat) (hs : Src w2 g q) (hg : World.grownBy _ w2 (some g)) => S.next hs hg)
  clear F R S
  go_enter Tryz.func220, Tryz.ntmps220
  go_wp2_with fail
  refine HP.out.mono ?_
  rintro e w2 ⟨x, q2, rfl, x0, x1, hq2, hs2, hg2⟩
  have F := HG.out w2 hg2
  have R := HR'.out w2 hg2
  have D := HS.out w2 q2 hs2 hg2
  clear HP HG HR' HS hg2 hs2
  have hs2z := D.size
  have h4 : x = 0 ∨ x = 1 ∨ x = 2 ∨ x = 3 := by omega
  clear x0 x1
  rcases h4 with rfl | rfl | rfl | rfl
  · have HR : Hid (∀ i, i < 7 → (row fano i).length ≤ 1048576) := Lib.hid (by decide +kernel)
    have hsz := D.size
    have hso := l10Sort_any _ 7 7 fano _ F.reads (by omega) HR.out
    have hRl := R.lt
    go_wp2_with fail
    refine hso.mono ?_
    rintro e w5 ⟨A5, c5, v5, rfl, ho5, hb5⟩
    have R5 := R.after hb5
    have S5 := D.step hb5
    obtain ⟨y0, y1, f0, f1, z0, z1, HF⟩ := retD_put (Φ := KnownD) (g := g) (p := p) (k := 10) (V := 7) R5 (Nat.le_refl _) hRl ho5 S5 (by omega) (.inl ⟨rfl, rfl⟩)
    clear hso ho5 R5 S5 hb5 D R F
    go_wp2
    exact bodyPost_ret (v := .agg #[.int .i64 7, .slice A5 7 c5]) (by simp [results, Tryz.results220, go_sem, z0, z1]) rfl HF
  · clear F
    have D : DBs w (w2.alloc (.cells #[] 22)) g q2 (some ⟨w2.heap.size, 0, none⟩) 0 0 [] := ⟨OR.of_own (OS.lit w2 w.heap.size 22 1 0 #[] hs2z rfl (by omega)) (by decide), D.step (below_alloc w2 (.cells #[] 22))⟩
    have R := R.after (below_alloc w2 (.cells #[] 22))
    go_wp2_with fail
    refine (pick_any g q2 4 _ D.s.src (by omega) (by omega) (by omega)).mono ?_
    rintro e w3 ⟨x, q3, rfl, x0, x1, hq3, hs3, hg3⟩
    have R := R.grown hg3 (fun e => by injection e with e; omega)
    have D := D.draw hs3 hg3
    obtain ⟨x, rfl⟩ := Int.eq_ofNat_of_zero_le x0
    obtain ⟨n, hn⟩ : ∃ n : Nat, n = x + 3 := ⟨_, rfl⟩
    have hnx : (3 : Int) + (x : Int) = (n : Int) := by omega
    have n3 : 3 ≤ n := by omega
    have n6 : n ≤ 6 := by omega
    clear hs3 hg3 x0 x1 hn
    go_wp2
    clear hnx
    go_loopw [4, 6] (fun ov av wr => ∃ (a : Nat) (A : Option Addr) (k c : Nat), a ≤ n ∧ av = .int .i64 a ∧ ov = .slice A k c ∧ k ≤ 6 * a ∧ DBs w wr g q3 A k c (prsA n a) ∧ Blk wr w.heap.size 56 #[.int .i64 0, .slice none 0 0]) (fun _ av _ => n - (intOf av).toNat)
    case atStart => exact ⟨0, _, 0, 0, Nat.zero_le _, rfl, rfl, Nat.le_refl _, by simpa [prsA] using D, R⟩
    case round =>
      clear D R
      obtain ⟨a, A, k, c, ha, rfl, rfl, hk, D, R⟩ := hrel
      by_cases hla : a < n
      · go_wp2
        go_loopw [4, 7] (fun ov bv wr => ∃ (j : Nat) (A : Option Addr) (k c : Nat), a + 1 + j ≤ n ∧ bv = .int .i64 ((a + 1 + j : Nat) : Int) ∧ ov = .slice A k c ∧ k ≤ 6 * a + j ∧ DBs w wr g q3 A k c (prsA n a ++ prsB a j) ∧ Blk wr w.heap.size 56 #[.int .i64 0, .slice none 0 0]) (fun _ bv _ => n - (intOf bv).toNat)
        case atStart => exact ⟨0, A, k, c, by omega, by go_num, rfl, by omega, by simpa [prsB] using D, R⟩
        case round =>
          clear D R hk
          obtain ⟨j, A, k, c, hj, rfl, rfl, hk, D, R⟩ := hrel
          obtain ⟨y, hy⟩ : ∃ y, y = a + 1 + j := ⟨_, rfl⟩
          have HY := Lib.hid hy
          have HPB := Lib.hid (prsB_step a j)
          rw [← hy] at hj HPB ⊢
          have hj5 : j ≤ 5 := by omega
          clear hy
          by_cases hly : y < n
          · obtain ⟨vs, D⟩ := D.v
            have hsz := D.s.size
            have hz : OI (wr.alloc (.cells #[.int .i64 (a : Int), .int .i64 (y : Int)] 2)) w.heap.size 2 (some ⟨wr.heap.size, 0, none⟩) 2 2 [(a : Int), (y : Int)] := by
              have := OI.lit wr w.heap.size 2 [(a : Int), (y : Int)] hsz (by simp) (fun z hz => by simp at hz; unfold I64; omega)
              simpa [ints] using this
            have hap : ApR vs (some ⟨wr.heap.size, 0, none⟩) 2 2 := D.new (fun b hb => by simp [blk] at hb; omega)
            have hb1 := below_alloc wr (.cells #[.int .i64 (a : Int), .int .i64 (y : Int)] 2)
            have D := D.step hb1
            have R := R.after hb1
            have hsz1 := D.s.size
            clear hb1 hsz
            go_wp2_with (at_builtin; refine app_row _ rfl (.tmp 51) (.tmp 55) rfl w.heap.size A k c vs _ rfl D.o (some ⟨wr.heap.size, 0, none⟩, 2, 2) _ hz hap _ rfl (by simp) (Nat.le_trans (Nat.succ_le_succ hk) (by omega)) hsz1 ?_; intro A3 c3 w5 ho3 hg3 hf3)
            have D3 := D.push ho3 hg3
            have R3 := R.grown hg3 (OS.typed' D.o.os R (by decide))
            rw [List.append_assoc, ← HPB.out] at D3
            clear ho3 hg3 hf3 hz hap D R
            go_roundw
            case rel => exact ⟨j + 1, A3, k + 1, c3, by have := HY.out; omega, by rw [HY.out]; go_num, rfl, by omega, D3, R3⟩
            case measure => have := HY.out; simp [intOf]; omega
          · have hjn : j = n - a - 1 := by have := HY.out; omega
            rw [hjn, ← prsA_step] at D
            clear hjn
            go_wp2
            go_roundw
            case rel => exact ⟨a + 1, A, k, c, by omega, by go_num, rfl, by omega, D, R⟩
            case measure => simp [intOf]; omega
      · obtain rfl : a = n := by omega
        have HR : Hid (∀ i, i < k → (row (prsA a a) i).length ≤ 1048576) := Lib.hid (prs_rows a k n6)
        have hka := hk
        have hsz := D.s.size
        have hso := l10Sort_any A k c (prsA a a) _ D.o.reads (by omega) HR.out
        have hRl := R.lt
        go_wp2_with fail
        refine hso.mono ?_
        rintro e w5 ⟨A5, c5, v5, rfl, ho5, hb5⟩
        have R5 := R.after hb5
        have S5 := D.s.step hb5
        obtain ⟨y0, y1, f0, f1, z0, z1, HF⟩ := retD_put (Φ := KnownD) (g := g) (p := p) (k := 10) (V := (a : Int)) R5 (Nat.le_refl _) hRl ho5 S5 (by omega) (.inr (.inl ⟨a, n3, n6, rfl, rfl⟩))
        clear hso ho5 R5 S5 hb5 D R
        go_wp2
        exact bodyPost_ret (v := .agg #[.int .i64 (a : Int), .slice A5 k c5]) (by simp [results, Tryz.results220, go_sem, z0, z1]) rfl HF
  · clear F
    have D := D.step (below_alloc w2 (.cells #[] 22))
    have D : DBs w (w2.alloc (.cells #[] 22)) g q2 (some ⟨w2.heap.size, 0, none⟩) 0 0 (difP 11 [1, 3, 4, 5, 9] 0) := ⟨OR.of_own (OS.lit w2 w.heap.size 22 1 0 #[] hs2z rfl (by omega)) (by decide), D⟩
    have R := R.after (below_alloc w2 (.cells #[] 22))
    go_wp2
    go_loopw [8, 9] (fun ov kv wr => ∃ (k : Nat) (A : Option Addr) (c : Nat), k ≤ 11 ∧ kv = .int .i64 k ∧ ov = .slice A k c ∧ DBs w wr g q2 A k c (difP 11 [1, 3, 4, 5, 9] k) ∧ Blk wr w.heap.size 56 #[.int .i64 0, .slice none 0 0]) (fun _ kv _ => 11 - (intOf kv).toNat)
    case atStart => exact ⟨0, _, 0, Nat.zero_le _, rfl, rfl, D, R⟩
    case round =>
      clear D R
      obtain ⟨k, A, c, hk, rfl, rfl, D, R⟩ := hrel
      by_cases hlt : k < 11
      · obtain ⟨wo, rfl⟩ : ∃ wo : World, wo = wr := ⟨_, rfl⟩
        obtain ⟨vs, D⟩ := D.v
        have hlt' : (k : Int) < 11 := by omega
        have hsz := D.s.size
        have ho0 : OI (wo.alloc (.cells #[] 2)) w.heap.size 2 (some ⟨wo.heap.size, 0, none⟩) 0 0 [] := by simpa [ints] using OI.lit wo w.heap.size 2 [] hsz (by simp) (by simp [All64])
        have hap0 : ApR vs (some ⟨wo.heap.size, 0, none⟩) 0 0 := D.new (fun b hb => by simp [blk] at hb; omega)
        have hb1 := below_alloc wo (.cells #[] 2)
        have hb2 := below_alloc (wo.alloc (.cells #[] 2)) (.cells #[.int .i64 1, .int .i64 3, .int .i64 4, .int .i64 5, .int .i64 9] 2)
        have hB : RI ((wo.alloc (.cells #[] 2)).alloc (.cells #[.int .i64 1, .int .i64 3, .int .i64 4, .int .i64 5, .int .i64 9] 2)) (some ⟨wo.heap.size + 1, 0, none⟩) 5 [1, 3, 4, 5, 9] := by
          have := RS.lit (E := EInt) (Value.int .i64) (wo.alloc (.cells #[] 2)) 2 [1, 3, 4, 5, 9] (fun x hx => ⟨rfl, by simp at hx; unfold I64; omega⟩)
          unfold RI
          simpa using this
        have D := (D.step hb1).step hb2
        have R := (R.after hb1).after hb2
        have ho0 := ho0.below hb2
        clear hb1 hb2 hsz
        generalize hW1 : (wo.alloc (.cells #[] 2)).alloc (.cells #[.int .i64 1, .int .i64 3, .int .i64 4, .int .i64 5, .int .i64 9] 2) = W1 at *
        have HW1 := Lib.hid hW1
        clear hW1
        go_wp2
        rw [HW1.out]
        go_loopw [10, 71] (fun sv iv wr' => ∃ (i : Nat) (Z : Option Addr) (zn zc : Nat), i ≤ 5 ∧ iv = .int .i64 i ∧ sv = .slice Z zn zc ∧ zn ≤ i ∧ OI wr' w.heap.size 2 Z zn zc (setG sgnI (([1, 3, 4, 5, 9].take i).map fun x => (x + (k : Int)) % 11)) ∧ ApR vs Z zn zc ∧ DBv w wr' g q2 A k c vs (difP 11 [1, 3, 4, 5, 9] k) ∧ Blk wr' w.heap.size 56 #[.int .i64 0, .slice none 0 0] ∧ RI wr' (some ⟨wo.heap.size + 1, 0, none⟩) 5 [1, 3, 4, 5, 9]) (fun _ iv _ => 5 - (intOf iv).toNat)
        case atStart => exact ⟨0, _, 0, 0, Nat.zero_le _, rfl, rfl, Nat.le_refl _, ho0, hap0, D, R, hB⟩
        case round =>
          clear ho0 hap0 D R hB HW1
          obtain ⟨i, Z, zn, zc, hi, rfl, rfl, hzi, ho, hap, D, R, hB⟩ := hrel
          by_cases hli : i < 5
          · have hli' : (i : Int) < 5 := by omega
            obtain ⟨ad, had, cb, ib⟩ := hB.get hli
            cases had
            rw [Addr.add_lit, Nat.zero_add] at cb
            have hvb : 0 ≤ nth [1, 3, 4, 5, 9] i ∧ nth [1, 3, 4, 5, 9] i ≤ 9 := (show ∀ i, i < 5 → 0 ≤ nth [1, 3, 4, 5, 9] i ∧ nth [1, 3, 4, 5, 9] i ≤ 9 by decide) i hli
            have HN := Lib.hid (show putG sgnI (setG sgnI (([1, 3, 4, 5, 9].take i).map fun x => (x + (k : Int)) % 11)) ((nth [1, 3, 4, 5, 9] i + (k : Int)) % 11) = setG sgnI (([1, 3, 4, 5, 9].take (i + 1)).map fun x => (x + (k : Int)) % 11) by
              rw [List.take_succ_eq_append_getElem (by simpa using hli), List.map_append, List.map_singleton, setG_snoc, nth_get (by simpa using hli)])
            generalize nth [1, 3, 4, 5, 9] i = v at *
            generalize setG sgnI (([1, 3, 4, 5, 9].take i).map fun x => (x + (k : Int)) % 11) = zs at *
            have hml : 0 ≤ (v + (k : Int)) % 11 ∧ (v + (k : Int)) % 11 < 11 := ⟨Int.emod_nonneg _ (by decide), Int.emod_lt_of_pos _ (by decide)⟩
            have q1 : (v + (k : Int)).tmod 11 = (v + (k : Int)) % 11 := Int.tmod_eq_emod_of_nonneg (by omega)
            have hput := l00Put_any Z zn zc zs ((v + (k : Int)) % 11) wr ho.reads (by omega) ⟨by omega, by omega⟩
            rw [HN.out] at hput
            clear HN ib
            generalize (v + (k : Int)) % 11 = u at *
            have hsz' := D.s.size
            have hzl := ho.len
            go_wp2_with fail
            refine hput.mono ?_
            rintro e w6 ⟨Z', zn', zc', rfl, ho', hb6⟩
            have hap2 : ApR vs Z' zn' zc' := D.new (fun b hb => (ho'.os.lt hb).1)
            have D := D.step hb6
            have R := R.after hb6
            have hB := hB.keep hb6
            have ho2 := ho'.more hsz'
            have hz2 : zn' ≤ i + 1 := by
              have h1 := ho'.len
              have h2 : (setG sgnI (([1, 3, 4, 5, 9].take (i + 1)).map fun x => (x + (k : Int)) % 11)).length ≤ i + 1 := by
                refine Nat.le_trans (setG_len _) ?_
                simp; omega
              omega
            clear ho ho' hb6 hput hap cb q1
            go_wp2
            go_roundw
            case rel => exact ⟨i + 1, Z', zn', zc', by omega, by go_num, rfl, hz2, ho2, hap2, D, R, hB⟩
            case measure => simp [intOf]; omega
          · obtain rfl : i = 5 := by omega
            rw [show ([1, 3, 4, 5, 9] : List Int).take 5 = [1, 3, 4, 5, 9] from rfl] at ho
            have hsz' := D.s.size
            go_wp2_with (at_builtin; refine app_row _ rfl (.tmp 82) (.tmp 84) rfl w.heap.size A k c vs (difP 11 [1, 3, 4, 5, 9] k) rfl D.o (Z, zn, zc) _ ho hap _ rfl (by simp) (Nat.le_trans (Nat.succ_le_succ hk) (by omega)) hsz' ?_; intro A3 c3 w3 ho3 hg3 hf3)
            have D3 := D.push ho3 hg3
            have R3 := R.grown hg3 (OS.typed' D.o.os R (by decide))
            rw [← difP_step] at D3
            clear ho3 hg3 hf3 ho hap D R hB
            go_roundw
            case rel => exact ⟨k + 1, A3, c3, by omega, by go_num, rfl, D3, R3⟩
            case measure => simp [intOf]; omega
      · obtain rfl : k = 11 := by omega
        have HR : Hid (∀ i, i < 11 → (row (difP 11 [1, 3, 4, 5, 9] 11) i).length ≤ 1048576) := Lib.hid (by decide +kernel)
        have hsz := D.s.size
        have hso := l10Sort_any A 11 c (difP 11 [1, 3, 4, 5, 9] 11) _ D.o.reads (by omega) HR.out
        have hRl := R.lt
        go_wp2_with fail
        refine hso.mono ?_
        rintro e w5 ⟨A5, c5, v5, rfl, ho5, hb5⟩
        have R5 := R.after hb5
        have S5 := D.s.step hb5
        obtain ⟨y0, y1, f0, f1, z0, z1, HF⟩ := retD_put (Φ := KnownD) (g := g) (p := p) (k := 10) (V := 11) R5 (Nat.le_refl _) hRl ho5 S5 (by omega) (.inr (.inr (.inl ⟨rfl, rfl⟩)))
        clear hso ho5 R5 S5 hb5 D R
        go_wp2
        exact bodyPost_ret (v := .agg #[.int .i64 11, .slice A5 11 c5]) (by simp [results, Tryz.results220, go_sem, z0, z1]) rfl HF
  · clear F
    have D := D.step (below_alloc w2 (.cells #[] 22))
    have D : DBs w (w2.alloc (.cells #[] 22)) g q2 (some ⟨w2.heap.size, 0, none⟩) 0 0 (difP 13 [0, 1, 3, 9] 0) := ⟨OR.of_own (OS.lit w2 w.heap.size 22 1 0 #[] hs2z rfl (by omega)) (by decide), D⟩
    have R := R.after (below_alloc w2 (.cells #[] 22))
    go_wp2
    go_loopw [13, 14] (fun ov kv wr => ∃ (k : Nat) (A : Option Addr) (c : Nat), k ≤ 13 ∧ kv = .int .i64 k ∧ ov = .slice A k c ∧ DBs w wr g q2 A k c (difP 13 [0, 1, 3, 9] k) ∧ Blk wr w.heap.size 56 #[.int .i64 0, .slice none 0 0]) (fun _ kv _ => 13 - (intOf kv).toNat)
    case atStart => exact ⟨0, _, 0, Nat.zero_le _, rfl, rfl, D, R⟩
    case round =>
      clear D R
      obtain ⟨k, A, c, hk, rfl, rfl, D, R⟩ := hrel
      by_cases hlt : k < 13
      · obtain ⟨wo, rfl⟩ : ∃ wo : World, wo = wr := ⟨_, rfl⟩
        obtain ⟨vs, D⟩ := D.v
        have hlt' : (k : Int) < 13 := by omega
        have hsz := D.s.size
        have ho0 : OI (wo.alloc (.cells #[] 2)) w.heap.size 2 (some ⟨wo.heap.size, 0, none⟩) 0 0 [] := by simpa [ints] using OI.lit wo w.heap.size 2 [] hsz (by simp) (by simp [All64])
        have hap0 : ApR vs (some ⟨wo.heap.size, 0, none⟩) 0 0 := D.new (fun b hb => by simp [blk] at hb; omega)
        have hb1 := below_alloc wo (.cells #[] 2)
        have hb2 := below_alloc (wo.alloc (.cells #[] 2)) (.cells #[.int .i64 0, .int .i64 1, .int .i64 3, .int .i64 9] 2)
        have hB : RI ((wo.alloc (.cells #[] 2)).alloc (.cells #[.int .i64 0, .int .i64 1, .int .i64 3, .int .i64 9] 2)) (some ⟨wo.heap.size + 1, 0, none⟩) 4 [0, 1, 3, 9] := by
          have := RS.lit (E := EInt) (Value.int .i64) (wo.alloc (.cells #[] 2)) 2 [0, 1, 3, 9] (fun x hx => ⟨rfl, by simp at hx; unfold I64; omega⟩)
          unfold RI
          simpa using this
        have D := (D.step hb1).step hb2
        have R := (R.after hb1).after hb2
        have ho0 := ho0.below hb2
        clear hb1 hb2 hsz
        generalize hW1 : (wo.alloc (.cells #[] 2)).alloc (.cells #[.int .i64 0, .int .i64 1, .int .i64 3, .int .i64 9] 2) = W1 at *
        have HW1 := Lib.hid hW1
        clear hW1
        go_wp2
        rw [HW1.out]
        go_loopw [15, 97] (fun sv iv wr' => ∃ (i : Nat) (Z : Option Addr) (zn zc : Nat), i ≤ 4 ∧ iv = .int .i64 i ∧ sv = .slice Z zn zc ∧ zn ≤ i ∧ OI wr' w.heap.size 2 Z zn zc (setG sgnI (([0, 1, 3, 9].take i).map fun x => (x + (k : Int)) % 13)) ∧ ApR vs Z zn zc ∧ DBv w wr' g q2 A k c vs (difP 13 [0, 1, 3, 9] k) ∧ Blk wr' w.heap.size 56 #[.int .i64 0, .slice none 0 0] ∧ RI wr' (some ⟨wo.heap.size + 1, 0, none⟩) 4 [0, 1, 3, 9]) (fun _ iv _ => 4 - (intOf iv).toNat)
        case atStart => exact ⟨0, _, 0, 0, Nat.zero_le _, rfl, rfl, Nat.le_refl _, ho0, hap0, D, R, hB⟩
        case round =>
          clear ho0 hap0 D R hB HW1
          obtain ⟨i, Z, zn, zc, hi, rfl, rfl, hzi, ho, hap, D, R, hB⟩ := hrel
          by_cases hli : i < 4
          · have hli' : (i : Int) < 4 := by omega
            obtain ⟨ad, had, cb, ib⟩ := hB.get hli
            cases had
            rw [Addr.add_lit, Nat.zero_add] at cb
            have hvb : 0 ≤ nth [0, 1, 3, 9] i ∧ nth [0, 1, 3, 9] i ≤ 9 := (show ∀ i, i < 4 → 0 ≤ nth [0, 1, 3, 9] i ∧ nth [0, 1, 3, 9] i ≤ 9 by decide) i hli
            have HN := Lib.hid (show putG sgnI (setG sgnI (([0, 1, 3, 9].take i).map fun x => (x + (k : Int)) % 13)) ((nth [0, 1, 3, 9] i + (k : Int)) % 13) = setG sgnI (([0, 1, 3, 9].take (i + 1)).map fun x => (x + (k : Int)) % 13) by
              rw [List.take_succ_eq_append_getElem (by simpa using hli), List.map_append, List.map_singleton, setG_snoc, nth_get (by simpa using hli)])
            generalize nth [0, 1, 3, 9] i = v at *
            generalize setG sgnI (([0, 1, 3, 9].take i).map fun x => (x + (k : Int)) % 13) = zs at *
            have hml : 0 ≤ (v + (k : Int)) % 13 ∧ (v + (k : Int)) % 13 < 13 := ⟨Int.emod_nonneg _ (by decide), Int.emod_lt_of_pos _ (by decide)⟩
            have q1 : (v + (k : Int)).tmod 13 = (v + (k : Int)) % 13 := Int.tmod_eq_emod_of_nonneg (by omega)
            have hput := l00Put_any Z zn zc zs ((v + (k : Int)) % 13) wr ho.reads (by omega) ⟨by omega, by omega⟩
            rw [HN.out] at hput
            clear HN ib
            generalize (v + (k : Int)) % 13 = u at *
            have hsz' := D.s.size
            have hzl := ho.len
            go_wp2_with fail
            refine hput.mono ?_
            rintro e w6 ⟨Z', zn', zc', rfl, ho', hb6⟩
            have hap2 : ApR vs Z' zn' zc' := D.new (fun b hb => (ho'.os.lt hb).1)
            have D := D.step hb6
            have R := R.after hb6
            have hB := hB.keep hb6
            have ho2 := ho'.more hsz'
            have hz2 : zn' ≤ i + 1 := by
              have h1 := ho'.len
              have h2 : (setG sgnI (([0, 1, 3, 9].take (i + 1)).map fun x => (x + (k : Int)) % 13)).length ≤ i + 1 := by
                refine Nat.le_trans (setG_len _) ?_
                simp; omega
              omega
            clear ho ho' hb6 hput hap cb q1
            go_wp2
            go_roundw
            case rel => exact ⟨i + 1, Z', zn', zc', by omega, by go_num, rfl, hz2, ho2, hap2, D, R, hB⟩
            case measure => simp [intOf]; omega
          · obtain rfl : i = 4 := by omega
            rw [show ([0, 1, 3, 9] : List Int).take 4 = [0, 1, 3, 9] from rfl] at ho
            have hsz' := D.s.size
            go_wp2_with (at_builtin; refine app_row _ rfl (.tmp 108) (.tmp 110) rfl w.heap.size A k c vs (difP 13 [0, 1, 3, 9] k) rfl D.o (Z, zn, zc) _ ho hap _ rfl (by simp) (Nat.le_trans (Nat.succ_le_succ hk) (by omega)) hsz' ?_; intro A3 c3 w3 ho3 hg3 hf3)
            have D3 := D.push ho3 hg3
            have R3 := R.grown hg3 (OS.typed' D.o.os R (by decide))
            rw [← difP_step] at D3
            clear ho3 hg3 hf3 ho hap D R hB
            go_roundw
            case rel => exact ⟨k + 1, A3, c3, by omega, by go_num, rfl, D3, R3⟩
            case measure => simp [intOf]; omega
      · obtain rfl : k = 13 := by omega
        have HR : Hid (∀ i, i < 13 → (row (difP 13 [0, 1, 3, 9] 13) i).length ≤ 1048576) := Lib.hid (by decide +kernel)
        have hsz := D.s.size
        have hso := l10Sort_any A 13 c (difP 13 [0, 1, 3, 9] 13) _ D.o.reads (by omega) HR.out
        have hRl := R.lt
        go_wp2_with fail
        refine hso.mono ?_
        rintro e w5 ⟨A5, c5, v5, rfl, ho5, hb5⟩
        have R5 := R.after hb5
        have S5 := D.s.step hb5
        obtain ⟨y0, y1, f0, f1, z0, z1, HF⟩ := retD_put (Φ := KnownD) (g := g) (p := p) (k := 10) (V := 13) R5 (Nat.le_refl _) hRl ho5 S5 (by omega) (.inr (.inr (.inr ⟨rfl, rfl⟩)))
        clear hso ho5 R5 S5 hb5 D R
        go_wp2
        exact bodyPost_ret (v := .agg #[.int .i64 13, .slice A5 13 c5]) (by simp [results, Tryz.results220, go_sem, z0, z1]) rfl HF
theorem OB.push {w w' : World} {B : Nat} {A A' : Option Addr} {n c c' : Nat} {vs : List Sl} {zss : List (List Int)} (h : OB w B A n c vs zss) (hg : w.grownBy w' (blk A)) {v : Sl} {z : List Int} (ho : OI w B 2 v.1 v.2.1 v.2.2 z) (hos : OS w' B 22 1 A' (n + 1) c' ((vs ++ [v]).map slv)) : OB w' B A' (n + 1) c' (vs ++ [v]) (zss ++ [z]) := by
  refine ⟨hos, by simp [h.len], fun j u y hu hy => ?_⟩
  rw [List.getElem?_append] at hu hy
  rw [h.len] at hu
  split at hu
  · rename_i hj
    rw [if_pos hj] at hy
    have hr := h.rows j u y hu hy
    exact hr.kept hg (OS.typed hr.os h.os (by decide))
  · rename_i hj
    rw [if_neg hj] at hy
    have e : j - zss.length = 0 := by
      have := (List.getElem?_eq_some_iff.1 hu).1
      simp at this; omega
    rw [e] at hu hy
    simp at hu hy
    subst hu; subst hy
    exact ho.kept hg (OS.typed ho.os h.os (by decide))
theorem OB.lenZ {w : World} {B : Nat} {A : Option Addr} {n c : Nat} {vs : List Sl} {zss : List (List Int)} (h : OB w B A n c vs zss) : zss.length = n := h.slen.2
theorem OB.nil_ (w : World) (B : Nat) : OB w B none 0 0 [] [] := ⟨OS.nil_ w B _ 1, rfl, fun _ _ _ h => by simp at h⟩
def RandD (V : Int) (zss : List (List Int)) : Prop := 1 ≤ V ∧ V ≤ 9 ∧ zss.length ≤ 8 ∧ ∀ r ∈ zss, 1 ≤ r.length ∧ r.length ≤ 4
def DrawD (V : Int) (zss : List (List Int)) : Prop := KnownD V zss ∨ RandD V zss
theorem srt_rand {pts : Nat} {zss : List (List Int)} (h : SmBs pts zss) (hl : zss.length ≤ 8) (p1 : 1 ≤ pts) (p9 : pts ≤ 9) : RandD (pts : Int) (srtR zss) :=
  ⟨by omega, by omega, by rw [srtR_len]; exact hl, fun r hr => by
    have := h r ((srtR_perm zss).mem_iff.1 hr)
    exact ⟨this.1, this.2.1⟩⟩
theorem srt_rows {zss : List (List Int)} {k : Nat} (h : ∀ r ∈ zss, r.length ≤ k) : ∀ r ∈ srtR zss, r.length ≤ k := fun r hr => h r ((srtR_perm zss).mem_iff.1 hr)
theorem dif_rows {m : Int} {base : List Int} {k : Nat} : ∀ r ∈ difP m base k, r.length ≤ base.length := fun r hr => by
  obtain ⟨x, _, rfl⟩ := List.mem_map.1 hr
  have := setG_len (c := sgnI) (base.map fun y => (y + (x : Int)) % m)
  simpa using this
theorem known_shape {V : Int} {zss : List (List Int)} (h : KnownD V zss) : 1 ≤ V ∧ V ≤ 13 ∧ zss.length ≤ 15 ∧ ∀ r ∈ zss, r.length ≤ 5 := by
  rcases h with ⟨rfl, rfl⟩ | ⟨n, n3, n6, rfl, rfl⟩ | ⟨rfl, rfl⟩ | ⟨rfl, rfl⟩
  · exact ⟨by omega, by omega, by rw [srtR_len]; decide, srt_rows (by decide)⟩
  · refine ⟨by omega, by omega, ?_, srt_rows fun r hr => ?_⟩
    · rw [srtR_len]
      have : n = 3 ∨ n = 4 ∨ n = 5 ∨ n = 6 := by omega
      rcases this with rfl | rfl | rfl | rfl <;> decide
    · unfold prsA at hr
      obtain ⟨x, _, hx⟩ := List.mem_flatMap.1 hr
      obtain ⟨y, _, rfl⟩ := List.mem_map.1 hx
      simp
  · exact ⟨by omega, by omega, by rw [srtR_len]; simp [difP], srt_rows fun r hr => Nat.le_trans (dif_rows r hr) (by decide)⟩
  · exact ⟨by omega, by omega, by rw [srtR_len]; simp [difP], srt_rows fun r hr => Nat.le_trans (dif_rows r hr) (by decide)⟩
theorem draw_shape {V : Int} {zss : List (List Int)} (h : DrawD V zss) : 1 ≤ V ∧ V ≤ 13 ∧ zss.length ≤ 15 ∧ ∀ r ∈ zss, r.length ≤ 5 := by
  rcases h with h | ⟨h1, h2, h3, h4⟩
  · exact known_shape h
  · exact ⟨h1, by omega, by omega, fun r hr => by have := h4 r hr; omega⟩
set_option maxRecDepth 100000 in
set_option maxHeartbeats 1000000 in
theorem l10Draw_any (g p : Nat) (w : World) (hs : Src w g p) (hp : p ≤ 70368744177664) :
    Calls Tryz.prog 181 #[.pointer (some ⟨g, 0, none⟩)] w (RetDs DrawD w g p 120) := by
  have S := (SrW.start hs).step (below_alloc w (.cells #[.int .i64 0, .slice none 0 0] 56))
  have R := Blk.new w 56 #[.int .i64 0, .slice none 0 0]
  clear hs
  have hgl := S.gl
  go_enter Tryz.func181, Tryz.ntmps181
  go_wp2_with fail
  refine (one_any g p 2 _ S.src (by omega) (by omega) (by omega)).mono ?_
  rintro e w1 ⟨b, q1, rfl, hq1, hs1, hg1⟩
  have R := R.grown hg1 (fun e => by injection e with e; omega)
  have S := S.next hs1 hg1
  clear hs1 hg1
  cases b with
  | true =>
    go_wp2_with fail
    refine (l10Known_any g q1 _ S.src (by omega)).mono ?_
    rintro e w2 ⟨V, A, n, c, vs, zss, q2, rfl, ho, S2, hq2, hK⟩
    have hRl := R.lt
    have R2 := R.grown S2.grown (fun e => by injection e with e; omega)
    have S3 := S.then_ S2
    clear R S S2
    obtain ⟨y0, y1, f0, f1, z0, z1, HF⟩ := retD_put (Φ := DrawD) (g := g) (p := p) (k := 120) (V := V) R2 (Nat.le_refl _) hRl ho S3 (by omega) (.inl hK)
    go_wp2
    exact bodyPost_ret (v := .agg #[.int .i64 V, .slice A n c]) (by simp [results, Tryz.results181, go_sem, z0, z1]) rfl HF
  | false =>
    go_wp2_with fail
    refine (pick_any g q1 9 _ S.src (by omega) (by omega) (by omega)).mono ?_
    rintro e w2 ⟨x, q2, rfl, x0, x1, hq2, hs2, hg2⟩
    have R := R.grown hg2 (fun e => by injection e with e; omega)
    have S := S.next hs2 hg2
    obtain ⟨x, rfl⟩ := Int.eq_ofNat_of_zero_le x0
    have hx1 : (1 : Int) + (x : Int) = ((x + 1 : Nat) : Int) := by omega
    have hblk := l10DrawBlocks_any g q2 (x + 1) w2 S.src (by omega) (by omega) (by omega)
    have hx8 : x ≤ 8 := by omega
    clear hs2 hg2 x0 x1
    generalize x + 1 = pts at *
    go_wp2_with fail
    refine hblk.mono ?_
    rintro e w3 ⟨A, k, c, zss, q3, rfl, D, hB, hk8, hq3⟩
    have hRl := R.lt
    have R := R.grown D.s.grown (fun e => by injection e with e; omega)
    have S := S.then_ D.s
    have hlen := D.o.len
    have hrow : Hid (∀ i, i < k → (row zss i).length ≤ 1048576) := Lib.hid fun i hi => by
      have := (hB (row zss i) (by rw [row_get (by omega)]; exact List.getElem_mem _)).2.1
      omega
    have HP : Hid (DrawD (pts : Int) (srtR zss)) := Lib.hid (.inr (srt_rand hB (by omega) (by omega) (by omega)))
    have hso := l10Sort_any A k c zss _ D.o.reads (by omega) hrow.out
    clear hblk hx1
    go_wp2_with fail
    refine hso.mono ?_
    rintro e w5 ⟨A5, c5, v5, rfl, ho5, hb5⟩
    have hRl := R.lt
    have R5 := R.after hb5
    have S5 := S.step hb5
    clear hso R S D hB
    obtain ⟨y0, y1, f0, f1, z0, z1, HF⟩ := retD_put (Φ := DrawD) (g := g) (p := p) (k := 120) (V := (pts : Int)) R5 (Nat.le_refl _) hRl ho5 S5 (by omega) HP.out
    go_wp2
    exact bodyPost_ret (v := .agg #[.int .i64 (pts : Int), .slice A5 k c5]) (by simp [results, Tryz.results181, go_sem, z0, z1]) rfl HF
def BentD (V : Int) (zss : List (List Int)) : Prop :=
  (∃ V0 z0, DrawD V0 z0 ∧ ((V = V0 ∧ zss = z0) ∨ ((V = 0 ∨ V = 32 ∨ V = 33) ∧ zss = z0) ∨ (V = V0 ∧ zss = z0 ++ [[]]) ∨ (V = V0 ∧ zss = z0 ++ [[0]]) ∨ (V = V0 ∧ zss = z0 ++ [[V0]]))) ∨ (V = 3 ∧ ∃ m : Nat, m ≤ 129 ∧ zss = List.replicate m [0, 1, 2])
def lenD (w : World) (g : Nat) : Nat := match w.cell? ⟨g, 1, none⟩ with | some (.slice _ n _) => n | _ => 0
theorem lenD_at {w : World} {g : Nat} {A : Option Addr} {n c : Nat} (h : w.cell? ⟨g, 1, none⟩ = some (.slice A n c)) : lenD w g = n := by unfold lenD; rw [h]
structure DV (w wr : World) (g q rb db : Nat) (V : Int) (A : Option Addr) (n c : Nat) (vs : List Sl) (zss : List (List Int)) : Prop where
  s : SrW w wr g q
  x : Blk wr db 56 #[.int .i64 V, .slice A n c]
  r : Blk wr rb 56 #[.int .i64 0, .slice none 0 0]
  o : OB wr (rb + 1) A n c vs zss
  ne : rb ≠ db
  lr : w.heap.size ≤ rb
  ld : w.heap.size ≤ db
section
variable {w wr w' : World} {g q q' rb db : Nat} {V : Int} {A : Option Addr} {n c : Nat} {vs : List Sl} {zss : List (List Int)}
theorem DV.draw (h : DV w wr g q rb db V A n c vs zss) (hs : Src w' g q') (hg : wr.grownBy w' (some g)) : DV w w' g q' rb db V A n c vs zss := by
  have hl := h.s.gl
  have h1 := h.lr
  have h2 := h.ld
  exact ⟨h.s.next hs hg, h.x.grown hg (fun e => by injection e with e; omega), h.r.grown hg (fun e => by injection e with e; omega), h.o.keptB hg (by omega), h.ne, h1, h2⟩
theorem DV.step (h : DV w wr g q rb db V A n c vs zss) (hb : Below wr.heap.size wr w') : DV w w' g q rb db V A n c vs zss :=
  ⟨h.s.step hb, h.x.after hb, h.r.after hb, h.o.below hb, h.ne, h.lr, h.ld⟩
theorem OB.far {p : Addr} {u : Value} (h : OB wr db A n c vs zss) (hA : blk A = none ∨ blk A ≠ some p.block) (hr : ∀ {A2 : Option Addr} {n2 c2 : Nat} {z : List Int}, OI wr db 2 A2 n2 c2 z → blk A2 = none ∨ blk A2 ≠ some p.block) : OB (wr.setCell p u) db A n c vs zss := by
  have hg : wr.grownBy (wr.setCell p u) (some p.block) := ⟨rfl, rfl, rfl, by simp [World.setCell], fun k _ hk => Below.heap_setCell _ _ _ _ (fun e => hk (by rw [e]))⟩
  exact ⟨h.os.kept hg hA, h.len, fun j v z hv hz => (h.rows j v z hv hz).kept hg (hr (h.rows j v z hv hz))⟩
theorem DV.points (h : DV w wr g q rb db V A n c vs zss) (V' : Int) : DV w (wr.setCell ⟨db, 0, none⟩ (.int .i64 V')) g q rb db V' A n c vs zss := by
  have h1 := h.ld
  have hx := h.x
  refine ⟨h.s.far grown_set (fun b e => by injection e with e; omega), by simpa using h.x.set_ 0 (.int .i64 V'), h.r.far h.ne _, ?_, h.ne, h.lr, h.ld⟩
  exact h.o.far (.inr fun e => OS.typed' h.o.os hx (by decide) e.symm) (fun ho => .inr fun e => OS.typed' ho.os hx (by decide) e.symm)
theorem DV.blocks (h : DV w wr g q rb db V A n c vs zss) (hg : wr.grownBy w' (blk A)) {A' : Option Addr} {n' c' : Nat} {vs' : List Sl} {zs' : List (List Int)} (ho : OB w' (rb + 1) A' n' c' vs' zs') : DV w (w'.setCell ⟨db, 1, none⟩ (.slice A' n' c')) g q rb db V A' n' c' vs' zs' := by
  have h1 := h.ld
  have h2 := h.lr
  have hx := h.x.grown hg (OS.typed' h.o.os h.x (by decide))
  have hr := h.r.grown hg (OS.typed' h.o.os h.r (by decide))
  refine ⟨(h.s.far hg (fun b hb => by have := (h.o.os.lt hb).1; omega)).far grown_set (fun b e => by injection e with e; omega), by simpa using hx.set_ 1 (.slice A' n' c'), hr.far h.ne _, ?_, h.ne, h.lr, h.ld⟩
  exact ho.far (.inr fun e => OS.typed' ho.os hx (by decide) e.symm) (fun ho => .inr fun e => OS.typed' ho.os hx (by decide) e.symm)
theorem DV.x1 (h : DV w wr g q rb db V A n c vs zss) (hg : wr.grownBy w' (blk A)) : w'.cell? ⟨db, 1, none⟩ = some (.slice A n c) ∧ w'.frozen? ⟨db, 1, none⟩ = false := by
  have hx := h.x.grown hg (OS.typed' h.o.os h.x (by decide))
  exact ⟨hx.cell 1, hx.frozen 1⟩
end
set_option maxRecDepth 100000 in
set_option maxHeartbeats 1000000 in
theorem l10Bent_any (g p : Nat) (w : World) (hs : Src w g p) (hp : p ≤ 35184372088832) :
    Calls Tryz.prog 127 #[.pointer (some ⟨g, 0, none⟩)] w (RetDs BentD w g p 140) := by
  have S := (SrW.start hs).step (below_alloc w (.cells #[.int .i64 0, .slice none 0 0] 56))
  have R := Blk.new w 56 #[.int .i64 0, .slice none 0 0]
  clear hs
  have hgl := S.gl
  go_enter Tryz.func127, Tryz.ntmps127
  go_wp2_with fail
  refine (l10Draw_any g p _ S.src (by omega)).mono ?_
  rintro e w1 ⟨V, A, n, c, vs, zss, q1, rfl, ho, S1, hq1, hD⟩
  have hRl := R.lt
  have R := R.grown S1.grown (fun e => by injection e with e; omega)
  have S := S.then_ S1
  have hsh := draw_shape hD
  have HD := Lib.hid hD
  clear hD S1
  have hba := below_alloc w1 (.cells #[.int .i64 V, .slice A n c] 56)
  have D : DV w (w1.alloc (.cells #[.int .i64 V, .slice A n c] 56)) g q1 w.heap.size w1.heap.size V A n c vs zss :=
    ⟨S.step hba, Blk.new _ _ _, R.after hba, (ho.more hRl).below hba, by have := R.lt; omega, Nat.le_refl _, S.size⟩
  clear hba R S ho hRl
  go_wp2_with fail
  refine (pick_any g q1 24 _ D.s.src (by omega) (by omega) (by omega)).mono ?_
  rintro e w2 ⟨x, q, rfl, x0', x1', hq, hs2, hg2⟩
  have D := D.draw hs2 hg2
  clear hs2 hg2
  have hn15 : n ≤ 15 := by have := D.o.lenZ; omega
  have hV13 : 1 ≤ V ∧ V ≤ 13 := ⟨hsh.1, hsh.2.1⟩
  have hrl := D.r.lt
  generalize w1.heap.size = db at *
  by_cases e0 : x = 0
  · subst e0
    have hlit : RI (w2.alloc (.cells #[.int .i64 0, .int .i64 32, .int .i64 33] 2)) (some ⟨w2.heap.size, 0, none⟩) 3 [0, 32, 33] :=
      RS.lit (E := EInt) (Value.int .i64) w2 2 [0, 32, 33] fun x hx => ⟨rfl, by simp at hx; unfold I64; omega⟩
    have hsz := D.s.size
    have D := D.step (below_alloc w2 (.cells #[.int .i64 0, .int .i64 32, .int .i64 33] 2))
    go_wp2_with fail
    refine (among_any g q _ 3 3 _ _ D.s.src (by omega) hlit (fun a ha => by cases ha; show w2.heap.size ≠ g; omega) (by omega) (by omega)).mono ?_
    rintro e w3 ⟨y, q3, rfl, hy, hq3, hs3, hg3⟩
    have D := D.draw hs3 hg3
    obtain ⟨x0, x1⟩ := D.x.cells2
    have hd := D.x.frozen 0
    have HP : BentD y zss := .inl ⟨V, zss, HD.out, .inr (.inl ⟨by simpa using hy, rfl⟩)⟩
    have D := D.points y
    clear hs3 hg3 hlit hy
    have y64 : True := trivial
    obtain ⟨y0, y1, f0, f1, z0, z1, HF⟩ := retD_put (Φ := BentD) (g := g) (p := p) (k := 140) (V := y) D.r (Nat.le_refl _) (Nat.lt_succ_self _) D.o D.s (by omega) HP
    obtain ⟨x0, x1⟩ := D.x.cells2
    clear D
    go_wp2
    exact bodyPost_ret (v := .agg #[.int .i64 y, .slice A n c]) (by simp [results, Tryz.results127, go_sem, z0, z1]) rfl HF
  by_cases e1 : x = 1
  · subst e1
    have HP : BentD V (zss ++ [[]]) := .inl ⟨V, zss, HD.out, .inr (.inr (.inl ⟨rfl, rfl⟩))⟩
    obtain ⟨x0, x1⟩ := D.x.cells2
    have hd := D.x.frozen 1
    have hsz := D.s.size
    have hlz := D.o.lenZ
    have hz : OI (w2.alloc (.cells #[] 2)) (w.heap.size + 1) 2 (some ⟨w2.heap.size, 0, none⟩) 0 0 [] := by
      have := OI.lit w2 (w.heap.size + 1) 2 [] hrl (by simp) All64.nil_
      simpa [ints] using this
    have D := D.step (below_alloc w2 (.cells #[] 2))
    have hrl1 := D.r.lt
    go_wp2_with (at_builtin; refine app_sl _ rfl (.tmp 18) (.tmp 20) rfl (w.heap.size + 1) A n c vs rfl D.o.os (some ⟨w2.heap.size, 0, none⟩, 0, 0) _ rfl (by simp) (by omega) hrl1 ?_; intro A3 c3 w3 ho3 hg3 hf3; have D3 := D.blocks hg3 (D.o.push hg3 hz ho3); obtain ⟨x3, f3⟩ := D.x1 hg3; obtain ⟨y0, y1, f0, f1, z0, z1, HF⟩ := retD_put (Φ := BentD) (g := g) (p := p) (k := 140) (V := V) D3.r (Nat.le_refl _) (Nat.lt_succ_self _) D3.o D3.s (by omega) HP; obtain ⟨x0', x1'⟩ := D3.x.cells2)
    exact bodyPost_ret (v := .agg #[.int .i64 V, .slice A3 (n + 1) c3]) (by simp [results, Tryz.results127, go_sem, z0, z1]) rfl HF
  by_cases e2 : x = 2
  · subst e2
    have HP : BentD V (zss ++ [[0]]) := .inl ⟨V, zss, HD.out, .inr (.inr (.inr (.inl ⟨rfl, rfl⟩)))⟩
    obtain ⟨x0, x1⟩ := D.x.cells2
    have hd := D.x.frozen 1
    have hsz := D.s.size
    have hlz := D.o.lenZ
    have hz : OI (w2.alloc (.cells #[.int .i64 0] 2)) (w.heap.size + 1) 2 (some ⟨w2.heap.size, 0, none⟩) 1 1 [0] := by
      have := OI.lit w2 (w.heap.size + 1) 2 [0] hrl (by simp) (All64.one ⟨by omega, by omega⟩)
      simpa [ints] using this
    have D := D.step (below_alloc w2 (.cells #[.int .i64 0] 2))
    have hrl1 := D.r.lt
    go_wp2_with (at_builtin; refine app_sl _ rfl (.tmp 26) (.tmp 28) rfl (w.heap.size + 1) A n c vs rfl D.o.os (some ⟨w2.heap.size, 0, none⟩, 1, 1) _ rfl (by simp) (by omega) hrl1 ?_; intro A3 c3 w3 ho3 hg3 hf3; have D3 := D.blocks hg3 (D.o.push hg3 hz ho3); obtain ⟨x3, f3⟩ := D.x1 hg3; obtain ⟨y0, y1, f0, f1, z0, z1, HF⟩ := retD_put (Φ := BentD) (g := g) (p := p) (k := 140) (V := V) D3.r (Nat.le_refl _) (Nat.lt_succ_self _) D3.o D3.s (by omega) HP; obtain ⟨x0', x1'⟩ := D3.x.cells2)
    exact bodyPost_ret (v := .agg #[.int .i64 V, .slice A3 (n + 1) c3]) (by simp [results, Tryz.results127, go_sem, z0, z1]) rfl HF
  by_cases e3 : x = 3
  · subst e3
    have HP : BentD V (zss ++ [[V]]) := .inl ⟨V, zss, HD.out, .inr (.inr (.inr (.inr ⟨rfl, rfl⟩)))⟩
    obtain ⟨x0, x1⟩ := D.x.cells2
    have hd := D.x.frozen 1
    have hsz := D.s.size
    have hlz := D.o.lenZ
    have hz : OI (w2.alloc (.cells #[.int .i64 V] 2)) (w.heap.size + 1) 2 (some ⟨w2.heap.size, 0, none⟩) 1 1 [V] := by
      have := OI.lit w2 (w.heap.size + 1) 2 [V] hrl (by simp) (All64.one ⟨by omega, by omega⟩)
      simpa [ints] using this
    have D := D.step (below_alloc w2 (.cells #[.int .i64 V] 2))
    have hrl1 := D.r.lt
    go_wp2_with (at_builtin; refine app_sl _ rfl (.tmp 34) (.tmp 38) rfl (w.heap.size + 1) A n c vs rfl D.o.os (some ⟨w2.heap.size, 0, none⟩, 1, 1) _ rfl (by simp) (by omega) hrl1 ?_; intro A3 c3 w3 ho3 hg3 hf3; have D3 := D.blocks hg3 (D.o.push hg3 hz ho3); obtain ⟨x3, f3⟩ := D.x1 hg3; obtain ⟨y0, y1, f0, f1, z0, z1, HF⟩ := retD_put (Φ := BentD) (g := g) (p := p) (k := 140) (V := V) D3.r (Nat.le_refl _) (Nat.lt_succ_self _) D3.o D3.s (by omega) HP; obtain ⟨x0', x1'⟩ := D3.x.cells2)
    exact bodyPost_ret (v := .agg #[.int .i64 V, .slice A3 (n + 1) c3]) (by simp [results, Tryz.results127, go_sem, z0, z1]) rfl HF
  by_cases e4 : x = 4
  · subst e4
    obtain ⟨x0, x1⟩ := D.x.cells2
    have hd0 := D.x.frozen 0
    have hd1 := D.x.frozen 1
    have D4 := (D.points 3).blocks (World.grownBy.refl _ _) (OB.nil_ _ (w.heap.size + 1))
    clear D
    go_wp2_with fail
    refine (pick_any g q 3 _ D4.s.src (by omega) (by omega) (by omega)).mono ?_
    rintro e w3 ⟨m, q3, rfl, m0, m1, hq3, hs3, hg3⟩
    have D := D4.draw hs3 hg3
    clear hs3 hg3 D4 x0 x1 hd0 hd1
    obtain ⟨m, rfl⟩ := Int.eq_ofNat_of_zero_le m0
    obtain ⟨t, ht⟩ : ∃ t : Nat, t = m + 127 := ⟨_, rfl⟩
    have htm : (127 : Int) + (m : Int) = (t : Int) := by omega
    have t129 : t ≤ 129 := by omega
    clear ht m0 m1
    go_wp2
    clear htm
    go_loopw [] (fun wr => ∃ (A : Option Addr) (n c : Nat) (vs : List Sl), n ≤ t ∧ DV w wr g q3 w.heap.size db 3 A n c vs (List.replicate n [0, 1, 2])) (fun wr => t - lenD wr db)
    case atStart => exact ⟨none, 0, 0, [], by omega, D⟩
    case round =>
      clear D
      obtain ⟨A, n, c, vs, hn, D⟩ := hrel
      by_cases hlt : n < t
      · obtain ⟨x0, x1⟩ := D.x.cells2
        have hlt' : (n : Int) < (t : Int) := by omega
        have hrl0 := D.r.lt
        have hz : OI (wr.alloc (.cells #[.int .i64 0, .int .i64 1, .int .i64 2] 2)) (w.heap.size + 1) 2 (some ⟨wr.heap.size, 0, none⟩) 3 3 [0, 1, 2] := by
          have := OI.lit wr (w.heap.size + 1) 2 [0, 1, 2] hrl0 (by simp) (fun z hz => by simp at hz; unfold I64; omega)
          simpa [ints] using this
        have hl0 := lenD_at x1
        have D1 := D.step (below_alloc wr (.cells #[.int .i64 0, .int .i64 1, .int .i64 2] 2))
        have hrl1 := D1.r.lt
        have hd1 := D.x.frozen 1
        clear D
        go_wp2_with (at_builtin; refine app_sl _ rfl (.tmp 53) (.tmp 55) rfl (w.heap.size + 1) A n c vs rfl D1.o.os (some ⟨wr.heap.size, 0, none⟩, 3, 3) _ rfl (by simp) (Nat.le_trans (Nat.succ_le_succ hn) (by omega)) hrl1 ?_; intro A3 c3 w4 ho3 hg3 hf3; have D3 := D1.blocks hg3 (D1.o.push hg3 hz ho3); obtain ⟨x3, f3⟩ := D1.x1 hg3)
        rw [← List.replicate_succ'] at D3
        go_roundw
        case rel => exact ⟨A3, n + 1, c3, _, by omega, D3⟩
        case measure => rw [lenD_at D3.x.cells2.2, hl0]; omega
      · have hnt : ¬ (n : Int) < (t : Int) := by omega
        have HP : BentD 3 (List.replicate n [0, 1, 2]) := .inr ⟨rfl, n, by omega, rfl⟩
        obtain ⟨y0, y1, f0, f1, z0, z1, HF⟩ := retD_put (Φ := BentD) (g := g) (p := p) (k := 140) (V := 3) D.r (Nat.le_refl _) (Nat.lt_succ_self _) D.o D.s (by omega) HP
        obtain ⟨x0, x1⟩ := D.x.cells2
        clear D
        go_wp2
        exact bodyPost_ret (v := .agg #[.int .i64 3, .slice A n c]) (by simp [results, Tryz.results127, go_sem, z0, z1]) rfl HF
  · have e0' : (x == 0) = false := by simp [e0]
    have e1' : (x == 1) = false := by simp [e1]
    have e2' : (x == 2) = false := by simp [e2]
    have e3' : (x == 3) = false := by simp [e3]
    have e4' : (x == 4) = false := by simp [e4]
    clear e0 e1 e2 e3 e4
    have HP : BentD V zss := .inl ⟨V, zss, HD.out, .inl ⟨rfl, rfl⟩⟩
    obtain ⟨y0, y1, f0, f1, z0, z1, HF⟩ := retD_put (Φ := BentD) (g := g) (p := p) (k := 140) (V := V) D.r (Nat.le_refl _) (Nat.lt_succ_self _) D.o D.s (by omega) HP
    obtain ⟨x0, x1⟩ := D.x.cells2
    clear D
    go_wp2
    exact bodyPost_ret (v := .agg #[.int .i64 V, .slice A n c]) (by simp [results, Tryz.results127, go_sem, z0, z1]) rfl HF
end Go.Proofs.YtdkbcjdimhgmnaaGreat
