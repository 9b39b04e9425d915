/- The group of a design, plain: rows put where the search finds them. -/
import Derived.Test.YtaphmapkobbfbaaGreatHP
import Derived.Test.YtaphmapkobbfbaaGreatHA
set_option linter.unusedVariables false
set_option linter.unusedSimpArgs false
namespace Go.Proofs.YtaphmapkobbfbaaGreat

theorem setG_self {zss : List (List Int)} (hs : StrictL cmpL zss) : setG cmpL zss = zss := setG_eq cmpL_ord hs fun _ => Iff.rfl
theorem putG_snoc {zss : List (List Int)} (hs : StrictL cmpL zss) (x : List Int) : putG cmpL zss x = setG cmpL (zss ++ [x]) := by
  rw [setG_snoc, setG_self hs]
theorem fd_same {zss : List (List Int)} {x : List Int} {k : Nat} (hs : StrictL cmpL zss) (h : FdAt zss x k true) : putG cmpL zss x = zss := by
  rw [putG_snoc hs]
  rcases h.2 with ⟨-, hx⟩ | ⟨h, -⟩
  · refine setG_eq cmpL_ord hs fun y => ⟨fun hy => List.mem_append_left _ hy, fun hy => ?_⟩
    rcases List.mem_append.1 hy with hy | hy
    · exact hy
    · rw [List.mem_singleton.1 hy]; exact hx
  · cases h
theorem fd_put {zss : List (List Int)} {x : List Int} {k : Nat} (hs : StrictL cmpL zss) (h : FdAt zss x k false) : zss.take k ++ [x] ++ zss.drop k = putG cmpL zss x := by
  rw [putG_snoc hs]
  obtain ⟨hk, h⟩ := h
  rcases h with ⟨h, -⟩ | ⟨-, h1, h2⟩
  · cases h
  · refine (setG_eq cmpL_ord ?_ fun y => ?_).symm
    · have a1 : ∀ a ∈ zss.take k, cmpL a x < 0 := fun a ha => by
        obtain ⟨i, hi, rfl⟩ := List.mem_iff_getElem.1 ha
        rw [List.length_take] at hi
        rw [List.getElem_take]
        have := h1 i (by omega)
        rwa [row_get (by omega)] at this
      have a2 : ∀ a ∈ zss.drop k, cmpL x a < 0 := fun a ha => by
        obtain ⟨i, hi, rfl⟩ := List.mem_iff_getElem.1 ha
        rw [List.length_drop] at hi
        rw [List.getElem_drop]
        have := h2 (k + i) (by omega) (by omega)
        rw [row_get (by omega)] at this
        have := cmpL_ord.swap zss[k + i] x
        omega
      unfold StrictL
      rw [List.append_assoc, List.pairwise_append]
      refine ⟨hs.sublist (List.take_sublist _ _), List.pairwise_cons.2 ⟨a2, hs.sublist (List.drop_sublist _ _)⟩, fun a ha b hb => ?_⟩
      rcases List.mem_cons.1 hb with rfl | hb
      · exact a1 a ha
      · exact cmpL_ord.lt_trans (a1 a ha) (a2 b hb)
    · have e : y ∈ zss ↔ y ∈ zss.take k ∨ y ∈ zss.drop k := by rw [← List.mem_append, List.take_append_drop]
      simp only [List.mem_append, List.mem_singleton, e]
      constructor
      · rintro ((h | h) | h)
        · exact .inl (.inl h)
        · exact .inr h
        · exact .inl (.inr h)
      · rintro ((h | h) | h)
        · exact .inl (.inl h)
        · exact .inr h
        · exact .inl (.inr h)
/-- the cut automorphisms -/
def cutL (V : Nat) (best : List (List Int)) : List (List Int) := best.map fun p => thenP (p.take V) (invP ((row best 0).take V))
theorem cutL_len (V : Nat) (best : List (List Int)) : (cutL V best).length = best.length := by simp [cutL]
theorem cutL_at {V : Nat} {best : List (List Int)} {k : Nat} (h : k < best.length) : row (cutL V best) k = thenP ((row best k).take V) (invP ((row best 0).take V)) := by
  rw [row_get (by rw [cutL_len]; exact h)]
  unfold cutL
  rw [List.getElem_map, row_get h]
theorem cutL_aut {V m : Nat} {best : List (List Int)} (h0 : 0 < best.length) (h : ∀ p ∈ best, UpL (dsC V m) p ∧ Perm p) : (autL best).map (fun p => p.take V) = cutL V best := by
  unfold autL cutL
  rw [List.map_map]
  refine List.map_congr_left fun p hp => ?_
  have hr : row best 0 ∈ best := by rw [row_get h0]; exact List.getElem_mem _
  exact cut_then (h p hp).1 (h p hp).2 (h _ hr).1 (h _ hr).2
end Go.Proofs.YtaphmapkobbfbaaGreat
/- DesignGroup, the reference's side. No condition beyond those stated. -/
namespace Go.Proofs.YtaphmapkobbfbaaGreat
open Go.RowKit

noncomputable def grL (v : Int) (bs : List (List Int)) (b : Int) : List (List Int) := setG cmpL (cutL v.toNat (runP (dgC v.toNat bs) (dgE v.toNat bs) b.toNat).best)
noncomputable def grK (v : Int) (bs : List (List Int)) (b : Int) : Int := if dK v bs b ≠ 0 then dK v bs b else if 720 < (grL v bs b).length then 5 else 0
noncomputable def grV (v : Int) (bs : List (List Int)) (b : Int) : Int := if grK v bs b = 0 then v else 0
noncomputable def grR (v : Int) (bs : List (List Int)) (b : Int) : List (List Int) := if grK v bs b = 0 then grL v bs b else []
theorem gr_err {v : Int} {bs : List (List Int)} {b : Int} (h : dK v bs b ≠ 0) : grK v bs b = dK v bs b ∧ grV v bs b = 0 ∧ grR v bs b = [] := by
  have h1 : grK v bs b = dK v bs b := by simp [grK, h]
  exact ⟨h1, by simp [grV, h1, h], by simp [grR, h1, h]⟩
theorem gr_big {v : Int} {bs : List (List Int)} {b : Int} (h : dK v bs b = 0) (k : 720 < (grL v bs b).length) : grK v bs b = 5 ∧ grV v bs b = 0 ∧ grR v bs b = [] := by
  have h1 : grK v bs b = 5 := by simp [grK, h, k]
  exact ⟨h1, by simp [grV, h1], by simp [grR, h1]⟩
theorem gr_ok {v : Int} {bs : List (List Int)} {b : Int} (h : dK v bs b = 0) (k : ¬ 720 < (grL v bs b).length) : grK v bs b = 0 ∧ grV v bs b = v ∧ grR v bs b = grL v bs b := by
  have h1 : grK v bs b = 0 := by simp [grK, h, k]
  exact ⟨h1, by simp [grV, h1], by simp [grR, h1]⟩
/-- a group that reads so, and a code -/
def RetGp (w : World) (v : Int) (bs : List (List Int)) (b : Int) (e : Ending) (w' : World) : Prop :=
  ∃ A n c, e = .returned (.tuple #[.agg #[.int .i64 (grV v bs b), .slice A n c], .int .i64 (grK v bs b)]) ∧ RR w' A n (grR v bs b) ∧ Below w.heap.size w w'
set_option maxRecDepth 100000 in
set_option maxHeartbeats 1000000 in
theorem spec_DesignGroup_err (v : Int) (A : Option Addr) (n c : Nat) (bs : List (List Int)) (b : Int) (w : World) (ha : RR w A n bs) (hn : n ≤ 1048576) (h0 : dK v bs b ≠ 0) :
    Calls Tryz.prog 27 #[.agg #[.int .i64 v, .slice A n c], .int .i64 b] w (RetGp w v bs b) := by
  have hb1 := below_then (below_alloc w (.cells #[.int .i64 v, .slice A n c] 28)) (below_alloc _ (.cells #[.int .i64 0, .slice none 0 0] 45))
  have X := (Blk.new w 28 #[.int .i64 v, .slice A n c]).alloc (.cells #[.int .i64 0, .slice none 0 0] 45)
  have Y : Blk ((w.alloc (.cells #[.int .i64 v, .slice A n c] 28)).alloc (.cells #[.int .i64 0, .slice none 0 0] 45)) (w.heap.size + 1) 45 #[.int .i64 0, .slice none 0 0] := by
    have := Blk.new (w.alloc (.cells #[.int .i64 v, .slice A n c] 28)) 45 #[.int .i64 0, .slice none 0 0]
    simpa using this
  have hf := l23Find_all _ v A n c bs b _ X (ha.keep hb1) (by omega)
  have HR := Lib.hid (gr_err h0)
  have h0' : (dK v bs b != 0) = true := by simp [h0]
  clear h0
  generalize hW1 : (w.alloc (.cells #[.int .i64 v, .slice A n c] 28)).alloc (.cells #[.int .i64 0, .slice none 0 0] 45) = W1 at *
  go_enter Tryz.func27, Tryz.ntmps27
  go_wp2_with fail
  refine hf.mono ?_
  rintro e w2 ⟨hb2, p, rfl, -⟩
  have Y2 := Y.after hb2
  obtain ⟨y0, y1⟩ := Y2.cells2
  have f0 := Y2.frozen 0
  have f1 := Y2.frozen 1
  have YF := (Y2.set_ 0 (.int .i64 0)).set_ 1 (.slice none 0 0)
  obtain ⟨z0, z1⟩ : ((w2.setCell ⟨w.heap.size + 1, 0, none⟩ (.int .i64 0)).setCell ⟨w.heap.size + 1, 1, none⟩ (.slice none 0 0)).cell? ⟨w.heap.size + 1, 0, none⟩ = some (.int .i64 0) ∧ ((w2.setCell ⟨w.heap.size + 1, 0, none⟩ (.int .i64 0)).setCell ⟨w.heap.size + 1, 1, none⟩ (.slice none 0 0)).cell? ⟨w.heap.size + 1, 1, none⟩ = some (.slice none 0 0) := ⟨YF.cell 0, YF.cell 1⟩
  have hw2 := hb1.trans (hb2.mono hb1.size)
  clear hf
  go_wp2
  refine bodyPost_ret (v := .tuple #[.agg #[.int .i64 0, .slice none 0 0], .int .i64 (dK v bs b)]) (by simp [results, Tryz.results27, go_sem, z0, z1]) rfl ?_
  exact ⟨none, 0, 0, by rw [HR.out.1, HR.out.2.1], by rw [HR.out.2.2]; exact RS.nil_ _ _ _, (hw2.setCell (p := ⟨w.heap.size + 1, 0, none⟩) (by simp) _).setCell (p := ⟨w.heap.size + 1, 1, none⟩) (by simp) _⟩
/-- the cut rows, as the loop reads them -/
theorem cut_rows {V m : Nat} {best : List (List Int)} (h : ∀ p ∈ best, UpL (dsC V m) p ∧ Perm p) {k : Nat} (hk : k < best.length) : ((row best k).take V).length = V ∧ Perm ((row best k).take V) := by
  have hr : row best k ∈ best := by rw [row_get hk]; exact List.getElem_mem _
  exact up_perm (h _ hr).1 (h _ hr).2
theorem cut_set {V : Nat} {best : List (List Int)} {k : Nat} (h : k < best.length) : putG cmpL (setG cmpL ((cutL V best).take k)) (thenP ((row best k).take V) (invP ((row best 0).take V))) = setG cmpL ((cutL V best).take (k + 1)) := by
  rw [← cutL_at h]
  exact setG_take (by rw [cutL_len]; exact h)
theorem run_cut {V m : Nat} (es : List Ed) (b : Nat) : ∀ p ∈ (runP (dsC V m) es b).best, UpL (dsC V m) p ∧ Perm p := fun p hp => ⟨runP_up _ _ b hp, (runP_rows _ _ b p hp).2⟩
end Go.Proofs.YtaphmapkobbfbaaGreat
