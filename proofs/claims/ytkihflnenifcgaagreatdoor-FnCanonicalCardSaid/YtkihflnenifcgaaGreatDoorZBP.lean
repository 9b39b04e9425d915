/- A graph that a law draws, while it is made; spec.l21DrawSize. No condition beyond those stated. -/
import Derived.Test.YtkihflnenifcgaaGreatDoorZBN
import Derived.Test.YtkihflnenifcgaaGreatDoorZAW
set_option linter.unusedVariables false
set_option linter.unusedSimpArgs false
namespace Go.Proofs.YtkihflnenifcgaaGreatDoor
open Go.RowKit

section
variable {w w' w'' : World} {g p q : Nat}
theorem OE.src {ty : TypeId} {A : Option Addr} {n c : Nat} {es : List Ed} (h : OE w' w.heap.size ty A n c es) (hs : SrW w w' g p) (hg : w'.grownBy w'' (some g)) : OE w'' w.heap.size ty A n c es :=
  h.kept hg (by
    cases A with
    | none => exact .inl rfl
    | some a => exact .inr fun e => by have := (h.os.lt (k := a.block) rfl).1; have := hs.gl; simp only [blk, Option.map_some, Option.some.injEq] at e; omega)
theorem OS.src {ty : TypeId} {size : Nat} {A : Option Addr} {n c : Nat} {xs : List Value} (h : OS w' w.heap.size ty size A n c xs) (hs : SrW w w' g p) : blk A = none ∨ blk A ≠ some g := by
  cases A with
  | none => exact .inl rfl
  | some a => exact .inr fun e => by have := (h.lt (k := a.block) rfl).1; have := hs.gl; simp only [blk, Option.map_some, Option.some.injEq] at e; omega
theorem TB.src {eo eb : TypeId} {A : Option Addr} {n c m : Nat} {f : Nat → Nat → Bool} (h : TB w' w.heap.size eo eb A n c m f) (hs : SrW w w' g p) (hg : w'.grownBy w'' (some g)) : TB w'' w.heap.size eo eb A n c m f := by
  obtain ⟨vs, h⟩ := h
  exact ⟨vs, h.kept hg (h.os.src hs) (fun j v hv => (h.rows j v hv).2.src hs)⟩
end
/-- a drawn graph in a call's own memory: the block of the result, the block of the variable -/
structure DG (w0 wr : World) (g q rb gb : Nat) (A : Option Addr) (n c : Nat) (F : Option Addr) (m d : Nat) (cs : List Int) (es : List Ed) : Prop where
  s : SrW w0 wr g q
  x : Blk wr gb 27 #[.slice A n c, .slice F m d]
  r : Blk wr rb 27 #[.slice none 0 0, .slice none 0 0]
  oa : OI wr w0.heap.size 2 A n c cs
  of_ : OE wr w0.heap.size 65 F m d es
  ne : rb ≠ gb
  lr : w0.heap.size ≤ rb
  lg : w0.heap.size ≤ gb
section
variable {w0 wr w' : World} {g q q' rb gb : Nat} {A : Option Addr} {n c : Nat} {F : Option Addr} {m d : Nat} {cs : List Int} {es : List Ed}
theorem DG.draw (h : DG w0 wr g q rb gb A n c F m d cs es) (hs : Src w' g q') (hg : wr.grownBy w' (some g)) : DG w0 w' g q' rb gb A n c F m d cs es :=
  have hl := h.s.gl
  have h1 := h.lr
  have h2 := h.lg
  ⟨h.s.next hs hg, h.x.grown hg (fun e => by injection e; omega), h.r.grown hg (fun e => by injection e; omega), h.oa.src h.s hg, h.of_.src h.s hg, h.ne, h1, h2⟩
theorem DG.step (h : DG w0 wr g q rb gb A n c F m d cs es) (hb : Below wr.heap.size wr w') : DG w0 w' g q rb gb A n c F m d cs es :=
  ⟨h.s.step hb, h.x.after hb, h.r.after hb, h.oa.below hb, h.of_.below hb, h.ne, h.lr, h.lg⟩
/-- the edges are others -/
theorem DG.edges (h : DG w0 wr g q rb gb A n c F m d cs es) (hg : wr.grownBy w' (blk F)) {F' : Option Addr} {m' d' : Nat} {es' : List Ed} (ho : OE w' w0.heap.size 65 F' m' d' es') :
    DG w0 (w'.setCell ⟨gb, 1, none⟩ (.slice F' m' d')) g q rb gb A n c F' m' d' cs es' := by
  have hx := h.x.grown hg (OS.typed' h.of_.os h.x (by decide))
  have hr := h.r.grown hg (OS.typed' h.of_.os h.r (by decide))
  have hoa := h.oa.kept hg (OS.typed h.oa.os h.of_.os (by decide))
  refine ⟨(h.s.far hg (fun b hb => (h.of_.os.lt hb).1)).far grown_set (fun b hb => by injection hb with hb; have := h.lg; omega), ?_, hr.far h.ne _, ?_, ?_, h.ne, h.lr, h.lg⟩
  · have := hx.set_ 1 (.slice F' m' d')
    simpa using this
  · exact hoa.kept grown_set (.inr fun e => OS.typed' hoa.os hx (by decide) e.symm)
  · exact ho.kept grown_set (.inr fun e => OS.typed' ho.os hx (by decide) e.symm)
theorem DG.edges0 (h : DG w0 wr g q rb gb A n c F m d cs es) {F' : Option Addr} {m' d' : Nat} {es' : List Ed} (ho : OE wr w0.heap.size 65 F' m' d' es') :
    DG w0 (wr.setCell ⟨gb, 1, none⟩ (.slice F' m' d')) g q rb gb A n c F' m' d' cs es' := h.edges (World.grownBy.refl _ _) ho
/-- edges are written over -/
theorem DG.edgesIn (h : DG w0 wr g q rb gb A n c F m d cs es) (hg : wr.grownBy w' (blk F)) {es' : List Ed} (ho : OE w' w0.heap.size 65 F m d es') : DG w0 w' g q rb gb A n c F m d cs es' :=
  ⟨h.s.far hg (fun b hb => (h.of_.os.lt hb).1), h.x.grown hg (OS.typed' h.of_.os h.x (by decide)), h.r.grown hg (OS.typed' h.of_.os h.r (by decide)), h.oa.kept hg (OS.typed h.oa.os h.of_.os (by decide)), ho, h.ne, h.lr, h.lg⟩
/-- colors are written over -/
theorem DG.colorsIn (h : DG w0 wr g q rb gb A n c F m d cs es) (hg : wr.grownBy w' (blk A)) {cs' : List Int} (ho : OI w' w0.heap.size 2 A n c cs') : DG w0 w' g q rb gb A n c F m d cs' es :=
  ⟨h.s.far hg (fun b hb => (h.oa.os.lt hb).1), h.x.grown hg (OS.typed' h.oa.os h.x (by decide)), h.r.grown hg (OS.typed' h.oa.os h.r (by decide)), ho, h.of_.kept hg (OS.typed h.of_.os h.oa.os (by decide)), h.ne, h.lr, h.lg⟩
/-- the colors are others -/
theorem DG.colors (h : DG w0 wr g q rb gb A n c F m d cs es) (hg : wr.grownBy w' (blk A)) {A' : Option Addr} {n' c' : Nat} {cs' : List Int} (ho : OI w' w0.heap.size 2 A' n' c' cs') :
    DG w0 (w'.setCell ⟨gb, 0, none⟩ (.slice A' n' c')) g q rb gb A' n' c' F m d cs' es := by
  have hx := h.x.grown hg (OS.typed' h.oa.os h.x (by decide))
  have hr := h.r.grown hg (OS.typed' h.oa.os h.r (by decide))
  have hof := h.of_.kept hg (OS.typed h.of_.os h.oa.os (by decide))
  refine ⟨(h.s.far hg (fun b hb => (h.oa.os.lt hb).1)).far grown_set (fun b hb => by injection hb with hb; have := h.lg; omega), ?_, hr.far h.ne _, ?_, ?_, h.ne, h.lr, h.lg⟩
  · have := hx.set_ 0 (.slice A' n' c')
    simpa using this
  · exact ho.kept grown_set (.inr fun e => OS.typed' ho.os hx (by decide) e.symm)
  · exact hof.kept grown_set (.inr fun e => OS.typed' hof.os hx (by decide) e.symm)
/-- what is handed back -/
theorem DG.done (h : DG w0 wr g q rb gb A n c F m d cs es) :
    SrW w0 ((wr.setCell ⟨rb, 0, none⟩ (.slice A n c)).setCell ⟨rb, 1, none⟩ (.slice F m d)) g q ∧
    OI ((wr.setCell ⟨rb, 0, none⟩ (.slice A n c)).setCell ⟨rb, 1, none⟩ (.slice F m d)) w0.heap.size 2 A n c cs ∧
    OE ((wr.setCell ⟨rb, 0, none⟩ (.slice A n c)).setCell ⟨rb, 1, none⟩ (.slice F m d)) w0.heap.size 65 F m d es ∧
    Blk ((wr.setCell ⟨rb, 0, none⟩ (.slice A n c)).setCell ⟨rb, 1, none⟩ (.slice F m d)) rb 27 #[.slice A n c, .slice F m d] := by
  have hl := h.lr
  have e1 : some rb ≠ blk A := OS.typed' h.oa.os h.r (by decide)
  have e2 : some rb ≠ blk F := OS.typed' h.of_.os h.r (by decide)
  exact ⟨(h.s.far (grown_set (g := rb) (p := 0) (u := .slice A n c)) (fun b hb => by injection hb with hb; omega)).far (grown_set (g := rb) (p := 1) (u := .slice F m d)) (fun b hb => by injection hb with hb; omega),
    (h.oa.kept (grown_set (g := rb) (p := 0) (u := .slice A n c)) (.inr fun e => e1 e.symm)).kept (grown_set (g := rb) (p := 1) (u := .slice F m d)) (.inr fun e => e1 e.symm),
    (h.of_.kept (grown_set (g := rb) (p := 0) (u := .slice A n c)) (.inr fun e => e2 e.symm)).kept (grown_set (g := rb) (p := 1) (u := .slice F m d)) (.inr fun e => e2 e.symm), by
    have := (h.r.set_ 0 (.slice A n c)).set_ 1 (.slice F m d)
    simpa using this⟩
end
/-- a drawn graph of n vertices -/
def RetDS (w : World) (g p n k : Nat) (e : Ending) (w' : World) : Prop := ∃ A c F m d cs es q, e = .returned (.agg #[.slice A n c, .slice F m d]) ∧ OI w' w.heap.size 2 A n c cs ∧ OE w' w.heap.size 65 F m d es ∧ SrW w w' g q ∧ q ≤ p + k ∧ m ≤ 4096
theorem ecells_take {es : List Ed} {k : Nat} (hk : k ≤ es.length) : (ecells es).take (k * 2) = ecells (es.take k) := by
  have h : ecells es = ecells (es.take k) ++ ecells (es.drop k) := by rw [← ecells_app, List.take_append_drop]
  rw [h, List.take_append_of_le_length (by rw [ecells_len, List.length_take]; omega), List.take_of_length_le (by rw [ecells_len, List.length_take]; omega)]
theorem OE.short {w : World} {B : Nat} {ty : TypeId} {A : Option Addr} {n c k : Nat} {es : List Ed} (h : OE w B ty A n c es) (hk : k ≤ n) (h0 : 0 < n) : OE w B ty A k c (es.take k) := by
  have hl := h.len
  refine ⟨?_, fun e he => h.all e (List.mem_of_mem_take he)⟩
  rcases h.os.cases with ⟨_, h1, _⟩ | ⟨g', cur, rfl, hB, hg, hnc, hc, hs, ht⟩
  · omega
  · refine ⟨by rw [ecells_len, List.length_take]; omega, .inr ⟨g', c, cur, rfl, hB, hg, by omega, hc, hs, ?_⟩⟩
    rw [← ecells_take (by omega), ← ht, List.take_take, Nat.min_eq_left (Nat.mul_le_mul_right 2 hk)]
theorem tabU_len (n : Nat) (f : Nat → Nat → Bool) (i : Nat) : (tabU n f i).length ≤ i * n := by
  induction i with
  | zero => simp [tabU_zero]
  | succ i ih =>
    rw [tabU_step, List.length_append, Nat.succ_mul]
    have : (tabV f i n).length ≤ n := by
      unfold tabV
      rw [List.length_map]
      have := List.length_filter_le (fun b => f i b) ((List.range n).drop (i + 1))
      simp at this
      omega
    omega
theorem tabE_len_le (n : Nat) (f : Nat → Nat → Bool) : (tabE n f).length ≤ n * n := by rw [← tabU_all]; exact tabU_len n f n
/-- the state while the table is filled -/
def TS (w0 wr : World) (g q : Nat) (T : Option Addr) (k kT : Nat) (A : Option Addr) (c : Nat) (zs : List Int) : Prop :=
  ∃ f, TB wr w0.heap.size 111 4 T k kT k f ∧ OI wr w0.heap.size 2 A k c zs ∧ SrW w0 wr g q ∧ Blk wr w0.heap.size 27 #[.slice none 0 0, .slice none 0 0]
section
variable {w0 wr w' : World} {g q q' : Nat} {T : Option Addr} {k kT : Nat} {A : Option Addr} {c : Nat} {zs : List Int}
theorem TS.draw (h : TS w0 wr g q T k kT A c zs) (hs : Src w' g q') (hg : wr.grownBy w' (some g)) : TS w0 w' g q' T k kT A c zs := by
  obtain ⟨f, hT, ho, S, R⟩ := h
  exact ⟨f, hT.src S hg, ho.src S hg, S.next hs hg, R.grown hg (fun e => by injection e with e; have := S.gl; omega)⟩
theorem TS.src (h : TS w0 wr g q T k kT A c zs) : Src wr g q := by
  obtain ⟨f, hT, ho, S, R⟩ := h
  exact S.src
theorem TS.put (h : TS w0 wr g q T k kT A c zs) {a b : Nat} (ha : a < k) (hb : b < k) : ∃ gT r kk u, T = some ⟨gT, 0, none⟩ ∧ wr.cell? ⟨gT, a, none⟩ = some (.slice (some ⟨r, 0, none⟩) k kk) ∧ k ≤ kk ∧ kk ≤ 9223372036854775807 ∧ wr.cell? ⟨r, b, none⟩ = some (.bool u) ∧ wr.frozen? ⟨r, b, none⟩ = false ∧
    ∀ x, TS w0 (wr.setCell ⟨r, b, none⟩ (.bool x)) g q T k kT A c zs := by
  obtain ⟨f, ⟨vs, hv⟩, ho, S, R⟩ := h
  obtain ⟨gT, r, kk, hg, d1, d2, d3, d4, d5, d6, d7, ⟨_, rfl, d8⟩, hs⟩ := hv.at_ ha hb
  have n1 := OS.typed' d8 R (by decide)
  simp only [blk, Option.map_some, ne_eq, Option.some.injEq] at n1
  have n2 := OS.typed ho.os d8 (by decide)
  exact ⟨gT, r, kk, f a b, hg, d1, d2, d3, d4, d5, fun x => ⟨_, ⟨vs, hs x⟩, ho.kept grown_set n2, S.far grown_set (fun c e => by injection e with e; omega), R.far n1 _⟩⟩
end
set_option maxRecDepth 100000 in
set_option maxHeartbeats 800000 in
theorem l21DrawSize_any (g p n : Nat) (w : World) (hs : Src w g p) (hp : p ≤ 562949953421312) (hn : n ≤ 64) :
    Calls Tryz.prog 40 #[.pointer (some ⟨g, 0, none⟩), .int .i64 n] w (RetDS w g p n 10000) := by
  have S0 := SrW.start hs
  have R0 := (Blk.new w 27 #[.slice none 0 0, .slice none 0 0]).alloc (.cells #[] 2)
  have S1 := (S0.step (below_alloc w (.cells #[.slice none 0 0, .slice none 0 0] 27))).step (below_alloc _ (.cells #[] 2))
  have ho0 : OI ((w.alloc (.cells #[.slice none 0 0, .slice none 0 0] 27)).alloc (.cells #[] 2)) w.heap.size 2 (some ⟨w.heap.size + 1, 0, none⟩) 0 0 [] := by
    simpa [ints] using OI.lit (w.alloc (.cells #[.slice none 0 0, .slice none 0 0] 27)) w.heap.size 2 [] (by simp) (by simp) (by simp [All64])
  go_enter Tryz.func40, Tryz.ntmps40
  go_wp2_with fail
  refine (pick_any g p 3 _ S1.src (by omega) (by omega) (by omega)).mono ?_
  rintro e w1 ⟨kinds, q1, rfl, k0, k1, hq1, hs1, hg1⟩
  have ho1 := ho0.src S1 hg1
  have R1 := R0.grown hg1 (fun e => by injection e with e; have := S0.gl; omega)
  have S2 := S1.next hs1 hg1
  clear S1 hs1 hg1 ho0 R0
  go_wp2
  go_loopw [5, 7] (fun v i wr => ∃ (k : Nat) (A : Option Addr) (c : Nat) (zs : List Int) (q : Nat), k ≤ n ∧ i = .int .i64 k ∧ v = .slice A k c ∧ OI wr w.heap.size 2 A k c zs ∧ SrW w wr g q ∧ q ≤ p + 2 + 2 * k ∧ Blk wr w.heap.size 27 #[.slice none 0 0, .slice none 0 0]) (fun _ i _ => n - (intOf i).toNat)
  case atStart => exact ⟨0, _, _, [], q1, Nat.zero_le _, rfl, by simp, ho1, S2, by omega, R1⟩
  case round =>
    clear ho1 S2 R1
    obtain ⟨k, A, c, zs, q, hk, rfl, rfl, ho, S, hq, R⟩ := hrel
    by_cases hlt : k < n
    · go_wp2_with fail
      refine (pick_any g q (kinds + 1) wr S.src (by omega) (by omega) (by omega)).mono ?_
      rintro e w2 ⟨x, q2, rfl, x0, x1, hq2, hs2, hg2⟩
      have ho2 := ho.src S hg2
      have R2 := R.grown hg2 (fun e => by injection e with e; have := S.gl; omega)
      have S2 := S.next hs2 hg2
      go_wp2_with (at_builtin; refine app_int _ rfl (.tmp 23) (.tmp 27) rfl w.heap.size A k c _ rfl ho2 x w2.heap.size rfl rfl ⟨by omega, by omega⟩ (by omega) S2.size ?_; intro A4 c4 w4 ho4 hg4 hf4)
      have S4 := S2.far hg4 (fun b hb => (ho2.os.lt hb).1)
      have R4 := R2.grown hg4 (OS.typed' ho2.os R2 (by decide))
      go_roundw
      case rel => exact ⟨k + 1, A4, c4, _, q2, by omega, by go_num, rfl, ho4, S4, by omega, R4⟩
      case measure => simp [intOf]; omega
    · obtain rfl : k = n := by omega
      have hG : RG wr A k none 0 zs [] := ⟨ho.reads, RE.nil_ wr none⟩
      go_wp2_with fail
      refine (l21Table_any A k c none 0 0 zs [] wr hG (by omega) (by omega) (fun j h => absurd h (by simp))).mono ?_
      rintro e w2 ⟨T, kT, rfl, hT, hb2⟩
      have hT := hT.more S.size
      have ho2 := ho.below hb2
      have S2 := S.step hb2
      have R2 := R.after hb2
      clear hG hb2 ho S R
      go_wp2_with fail
      refine (pick_any g q 4 w2 S2.src (by omega) (by omega) (by omega)).mono ?_
      rintro e w3 ⟨kind, q3, rfl, kk0, kk1, hq3, hs3, hg3⟩
      have hT3 := hT.src S2 hg3
      have ho3 := ho2.src S2 hg3
      have R3 := R2.grown hg3 (fun e => by injection e with e; have := S2.gl; omega)
      have S3 := S2.next hs3 hg3
      generalize nbB [] = f at *
      clear hT ho2 S2 R2 hs3 hg3
      go_wp2
      have TS0 : TS w w3 g q3 T k kT A c zs := ⟨f, hT3, ho3, S3, R3⟩
      clear hT3 ho3 S3 R3
      go_loopw [10] (fun i wr => ∃ (a : Nat) (q : Nat), a ≤ k ∧ i = .int .i64 a ∧ TS w wr g q T k kT A c zs ∧ q ≤ p + 200 + 128 * a) (fun i _ => k - (intOf i).toNat)
      case atStart => exact ⟨0, q3, Nat.zero_le _, rfl, TS0, by omega⟩
      case round =>
        clear TS0
        obtain ⟨a, q, ha, rfl, S, hq⟩ := hrel
        by_cases ha' : a < k
        · go_wp2
          go_loopw [11, 12] (fun i _ wr => ∃ (b : Nat) (q : Nat), a < b ∧ b ≤ k ∧ i = .int .i64 b ∧ TS w wr g q T k kT A c zs ∧ q ≤ p + 200 + 128 * a + 2 * b) (fun i _ _ => k - (intOf i).toNat)
          case atStart => exact ⟨a + 1, q, by omega, by omega, by go_num, S, by omega⟩
          case round =>
            clear S hq
            obtain ⟨b, q, hab, hb, rfl, S, hq⟩ := hrel
            by_cases hlb : b < k
            · have hk4 : kind = 0 ∨ kind = 1 ∨ kind = 2 ∨ kind = 3 := by omega
              rcases hk4 with rfl | rfl | rfl | rfl
              · by_cases e1 : b = a + 1
                · have q1 : ((b : Int) == (a : Int) + 1) = true := by simp; omega
                  clear e1
                  obtain ⟨gT, r, kk, u, rfl, d1, d2, d3, d4, d5, hx⟩ := S.put ha' hlb
                  clear S
                  go_wp2
                  go_roundw
                  case rel => exact ⟨b + 1, q, by omega, by omega, by go_num, hx _, by omega⟩
                  case measure => simp [intOf] <;> omega
                · have q1 : ((b : Int) == (a : Int) + 1) = false := by simp; omega
                  by_cases e2 : a = 0
                  · subst e2
                    have q3 : ((b : Int) == 1) = false := by simp; omega
                    clear e1 q1
                    obtain ⟨gT, r, kk, u, rfl, d1, d2, d3, d4, d5, hx⟩ := S.put ha' hlb
                    clear S
                    go_wp2
                    go_roundw
                    case rel => exact ⟨b + 1, q, by omega, by omega, by go_num, hx _, by omega⟩
                    case measure => simp [intOf] <;> omega
                  · have q2 : ((a : Int) == 0) = false := by simp; omega
                    clear e1 e2
                    obtain ⟨gT, r, kk, u, rfl, d1, d2, d3, d4, d5, hx⟩ := S.put ha' hlb
                    clear S
                    go_wp2
                    go_roundw
                    case rel => exact ⟨b + 1, q, by omega, by omega, by go_num, hx _, by omega⟩
                    case measure => simp [intOf] <;> omega
              · go_wp2_with fail
                refine (pick_any g q 3 _ S.src (by omega) (by omega) (by omega)).mono ?_
                rintro e w4 ⟨x, q4, rfl, x0, x1, hq4, hs4, hg4⟩
                have S := S.draw hs4 hg4
                obtain ⟨gT, r, kk, u, rfl, d1, d2, d3, d4, d5, hx⟩ := S.put ha' hlb
                clear S
                go_wp2
                go_roundw
                case rel => exact ⟨b + 1, q4, by omega, by omega, by go_num, hx _, by omega⟩
                case measure => simp [intOf] <;> omega
              · obtain ⟨gT, r, kk, u, rfl, d1, d2, d3, d4, d5, hx⟩ := S.put ha' hlb
                clear S
                go_wp2
                go_roundw
                case rel => exact ⟨b + 1, q, by omega, by omega, by go_num, hx _, by omega⟩
                case measure => simp [intOf] <;> omega
              · go_wp2_with fail
                refine (pick_any g q 2 _ S.src (by omega) (by omega) (by omega)).mono ?_
                rintro e w4 ⟨x, q4, rfl, x0, x1, hq4, hs4, hg4⟩
                have S := S.draw hs4 hg4
                obtain ⟨gT, r, kk, u, rfl, d1, d2, d3, d4, d5, hx⟩ := S.put ha' hlb
                clear S
                go_wp2
                go_roundw
                case rel => exact ⟨b + 1, q4, by omega, by omega, by go_num, hx _, by omega⟩
                case measure => simp [intOf] <;> omega
            · go_wp2
              go_roundw
              case rel => exact ⟨a + 1, q, by omega, by go_num, S, by omega⟩
              case measure => simp [intOf]; omega
        · obtain rfl : a = k := by omega
          obtain ⟨f, hT, ho, S, R⟩ := S
          have hTa := (hT.more (Nat.le_refl _))
          go_wp2_with fail
          refine (l21Of_any A a c zs T kT w.heap.size f wr ho.reads (by omega) hT).mono ?_
          rintro e w5 ⟨A5, n5, c5, F5, m5, d5, rfl, hO, hb5⟩
          obtain rfl : n5 = a := by rw [← hO.oi.len, ho.len]
          have hml : m5 ≤ 4096 := by
            have h1 := tabE_len_le n5 f
            rw [hO.oe.len] at h1
            have := Nat.mul_le_mul (show n5 ≤ 64 by omega) (show n5 ≤ 64 by omega)
            omega
          have S5 := S.step hb5
          have R5 := R.after hb5
          have hsz := S.size
          have hoe := hO.oe.more hsz
          have hoa := hO.oi.more hsz
          have hne : w.heap.size ≠ w5.heap.size := by have := R5.lt; omega
          clear hT ho S R hO hb5 hTa
          generalize tabE n5 f = es at *
          have DD : ∀ (F' : Option Addr) (m' d' : Nat) (es' : List Ed), OE w5 w.heap.size 65 F' m' d' es' → DG w (w5.alloc (.cells #[.slice A5 n5 c5, .slice F' m' d'] 27)) g q w.heap.size w5.heap.size A5 n5 c5 F' m' d' zs es' := fun F' m' d' es' h =>
            ⟨S5.step (below_alloc w5 _), Blk.new w5 _ _, R5.alloc _, hoa.alloc _, h.alloc _, hne, Nat.le_refl _, S5.size⟩
          have hd := hoe.os.cap
          by_cases hm : m5 ≤ 512
          · have D5 := DD _ _ _ _ hoe
            clear DD S5 R5 hoe hoa
            obtain ⟨r0, r1⟩ := D5.r.cells2
            have f0 := D5.r.frozen 0
            have f1 := D5.r.frozen 1
            have hD := D5.done
            clear D5
            go_wp2
            clear r0 r1
            obtain ⟨x0, x1⟩ := hD.2.2.2.cells2
            exact bodyPost_ret (v := .agg #[.slice A5 n5 c5, .slice F5 m5 d5]) (by simp [results, Tryz.results40, go_sem, x0, x1]) rfl ⟨A5, c5, F5, m5, d5, zs, es, q, rfl, hD.2.1, hD.2.2.1, hD.1, by omega, hml⟩
          · have D5 := DD _ _ _ _ (hoe.short (k := 512) (by omega) (by omega))
            clear DD S5 R5
            obtain ⟨gF, rfl⟩ : ∃ gF, F5 = some ⟨gF, 0, none⟩ := by
              obtain ⟨gF, e, _⟩ := hoe.cell (k := 0) (by omega)
              exact ⟨gF, e⟩
            clear hoe hoa
            obtain ⟨r0, r1⟩ := D5.r.cells2
            have f0 := D5.r.frozen 0
            have f1 := D5.r.frozen 1
            have hD := D5.done
            clear D5
            go_wp2
            clear r0 r1
            obtain ⟨x0, x1⟩ := hD.2.2.2.cells2
            exact bodyPost_ret (v := .agg #[.slice A5 n5 c5, .slice (some ⟨gF, 0, none⟩) 512 d5]) (by simp [results, Tryz.results40, go_sem, x0, x1]) rfl ⟨A5, c5, _, 512, d5, zs, es.take 512, q, rfl, hD.2.1, hD.2.2.1, hD.1, by omega, by omega⟩
end Go.Proofs.YtkihflnenifcgaaGreatDoor
