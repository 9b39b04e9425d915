/- The graph of a Latin square, plain. No program in sight. -/
import Derived.Test.YtdkbcjdimhgmnaaGreatSGL
import Derived.Test.YtdkbcjdimhgmnaaGreatSHF
set_option linter.unusedVariables false
set_option linter.unusedSimpArgs false
namespace Go.Proofs.YtdkbcjdimhgmnaaGreat
section
variable {a : List (List Int)} {n : Nat}
end
end Go.Proofs.YtdkbcjdimhgmnaaGreat
namespace Go.Proofs.YtdkbcjdimhgmnaaGreat
open Go.RowKit
set_option maxRecDepth 100000 in
set_option maxHeartbeats 2000000 in
theorem graphOf_any (B : Nat) (A : Option Addr) (n c : Nat) (F : Option Addr) (m d : Nat) (cs : List Int) (zs : List Ed) (w : World) (hB : B ≤ w.heap.size) (ha : OI w B 2 A n c cs) (hf : RE w F m zs) (hn : n ≤ 64) (hm : m ≤ 512) (hnd : (zs.map mmP).Nodup) :
    Calls Tryz.prog 114 #[.slice A n c, .slice F m d] w (fun e w' => ∃ F' d', e = .returned (.tuple #[.agg #[.slice A n c, .slice F' m d'], .int .i64 0]) ∧ OI w' B 2 A n c cs ∧ OE w' B 113 F' m d' (setG cmpE (zs.map mmP)) ∧ Below w.heap.size w w') := by
  have hb1 := below_alloc w (.cells #[.slice none 0 0, .slice none 0 0] 46)
  have Y := Blk.new w 46 #[.slice none 0 0, .slice none 0 0]
  have hse := sortedEdges_any F m d zs _ (hf.keep hb1) (by omega) hnd
  have hs1 : (w.alloc (.cells #[.slice none 0 0, .slice none 0 0] 46)).heap.size = w.heap.size + 1 := by simp
  rw [hs1] at hse
  go_enter Tryz.func114, Tryz.ntmps114
  go_wp2_with fail
  refine hse.mono ?_
  rintro e w2 ⟨F', d', rfl, ho2, hb2⟩
  have Y2 := Y.after (by simpa using hb2)
  obtain ⟨y0, y1⟩ := Y2.cells2
  have f0 := Y2.frozen 0
  have f1 := Y2.frozen 1
  have YF := (Y2.set_ 0 (.slice A n c)).set_ 1 (.slice F' m d')
  obtain ⟨z0, z1⟩ : (((w2.setCell ⟨w.heap.size, 0, none⟩ (.slice A n c)).setCell ⟨w.heap.size, 1, none⟩ (.slice F' m d')).cell? ⟨w.heap.size, 0, none⟩ = some (.slice A n c)) ∧ (((w2.setCell ⟨w.heap.size, 0, none⟩ (.slice A n c)).setCell ⟨w.heap.size, 1, none⟩ (.slice F' m d')).cell? ⟨w.heap.size, 1, none⟩ = some (.slice F' m d')) := ⟨YF.cell 0, YF.cell 1⟩
  clear hse
  go_wp2
  have hw2 := hb1.trans (hb2.mono (by simp))
  have o1 := ha.below hw2
  have o2 := ho2.more (B' := B) (by omega)
  have e1 : some w.heap.size ≠ blk A := OS.typed' o1.os Y2 (by decide)
  have e2 : some w.heap.size ≠ blk F' := OS.typed' o2.os Y2 (by decide)
  have o1 := (o1.kept (grown_set (g := w.heap.size) (p := 0) (u := .slice A n c)) (.inr fun e => e1 e.symm)).kept (grown_set (g := w.heap.size) (p := 1) (u := .slice F' m d')) (.inr fun e => e1 e.symm)
  have o2 := (o2.kept (grown_set (g := w.heap.size) (p := 0) (u := .slice A n c)) (.inr fun e => e2 e.symm)).kept (grown_set (g := w.heap.size) (p := 1) (u := .slice F' m d')) (.inr fun e => e2 e.symm)
  refine bodyPost_ret (v := .tuple #[.agg #[.slice A n c, .slice F' m d'], .int .i64 0]) (by simp [results, Tryz.results114, go_sem, z0, z1]) rfl ?_
  exact ⟨_, _, rfl, o1, o2, (hw2.setCell (p := ⟨w.heap.size, 0, none⟩) (Nat.le_refl _) _).setCell (p := ⟨w.heap.size, 1, none⟩) (Nat.le_refl _) _⟩
end Go.Proofs.YtdkbcjdimhgmnaaGreat
