/- Objects: made, copied, marked, held and compared. No condition beyond those stated. -/
import Derived.Test.YtainkgckahcdnaaCopy
import Derived.Test.YtainkgckahcdnaaMark
import Derived.Test.YtainkgckahcdnaaFunc
namespace Go.Proofs.Ytainkgckahcdnaa
open Go.RowKit

theorem bcell {W w1 : World} (hb : Below W.heap.size W w1) : (∀ b o, b < W.heap.size → w1.cell? ⟨b, o, none⟩ = W.cell? ⟨b, o, none⟩) ∧ (∀ b o, b < W.heap.size → w1.frozen? ⟨b, o, none⟩ = W.frozen? ⟨b, o, none⟩) :=
  ⟨fun b o h => hb.cell (p := ⟨b, o, none⟩) h, fun b o h => hb.frozen (p := ⟨b, o, none⟩) h⟩
/-- an object whose rows lie in memory of the call's own -/
def RetO (w : World) (k s : Int) (zss : List (List Int)) (en : Ending) (w' : World) : Prop :=
  ∃ A n c, en = .returned (.agg #[.int .i64 k, .int .i64 s, .slice A n c]) ∧ OR w' w.heap.size 51 2 A n c zss ∧ Below w.heap.size w w'
/-- the same, and a code -/
def RetOC (w : World) (k s : Int) (zss : List (List Int)) (code : Int) (en : Ending) (w' : World) : Prop :=
  ∃ A n c, en = .returned (.tuple #[.agg #[.int .i64 k, .int .i64 s, .slice A n c], .int .i64 code]) ∧ OR w' w.heap.size 51 2 A n c zss ∧ Below w.heap.size w w'

set_option maxHeartbeats 1000000 in
theorem copyObject_any (k s : Int) (A : Option Addr) (n c : Nat) (zss : List (List Int)) (w : World) (ha : RR w A n zss) (hn : n ≤ 1099511627776) (hr : cells zss ≤ 1099511627776) :
    Calls Try.prog 41 #[.agg #[.int .i64 k, .int .i64 s, .slice A n c]] w (RetO w k s zss) := by
  have hb1 := below_alloc w (.cells #[.int .i64 k, .int .i64 s, .slice A n c] 25)
  go_enter Try.func41, Try.ntmps41
  go_wp2_with fail
  refine (copyLists_any A n c zss _ (ha.keep (hb1.alloc (by simp) _)) hn hr).mono ?_
  rintro e w1 ⟨A2, n2, c2, rfl, ho, hb⟩
  have X := ((Blk.new w 25 #[.int .i64 k, .int .i64 s, .slice A n c]).alloc (.cells #[.int .i64 0, .int .i64 0, .slice none 0 0] 25)).after hb
  have X' : Blk w1 (w.heap.size + 1) 25 #[.int .i64 0, .int .i64 0, .slice none 0 0] := by
    have := (Blk.new (w.alloc (.cells #[.int .i64 k, .int .i64 s, .slice A n c] 25)) 25 #[.int .i64 0, .int .i64 0, .slice none 0 0]).after hb
    simpa using this
  have ho' : OR w1 (w.heap.size + 1 + 1) 51 2 A2 n2 c2 zss := by simpa using ho
  have hw : Below w.heap.size w w1 := (hb1.alloc (by simp) _).trans (hb.mono (by simp; omega))
  clear ho hb ha hb1
  have x3 := X.frozen 2
  have Y : Blk (w1.setCell ⟨w.heap.size, 2, none⟩ (.slice A2 n2 c2)) w.heap.size 25 #[.int .i64 k, .int .i64 s, .slice A2 n2 c2] := X.set_ 2 _
  obtain ⟨y0, y1, y2⟩ := Y.cells3
  obtain ⟨x0, x1, x2⟩ := X.cells3
  obtain ⟨z0, z1, z2⟩ := X'.cells3
  have f0 := X'.frozen 0
  have f1 := X'.frozen 1
  have f2 := X'.frozen 2
  go_wp2
  refine bodyPost_ret (v := .agg #[.int .i64 k, .int .i64 s, .slice A2 n2 c2]) (by simp [results, Try.results41, go_sem, z0, z1, z2]) rfl ⟨A2, n2, c2, rfl, ?_, ?_⟩
  · refine OR.more (B := w.heap.size + 1 + 1) ?_ (by omega)
    repeat (refine OR.setLow ?_ (by simp <;> omega) _)
    exact ho'
  · repeat (refine Below.setCell ?_ (by simp <;> omega) _)
    exact hw
/-- what tells of an object of one kind whether it is valid -/
def Judge (k s : Int) (zss : List (List Int)) (ok : Bool) (w : World) : Prop :=
  ∀ (g : Nat) (A : Option Addr) (n c : Nat) (W : World), Below w.heap.size w W → Blk W g 25 #[.int .i64 k, .int .i64 s, .slice A n c] → RR W A n zss → n ≤ c → c ≤ 9223372036854775807 →
    Calls Try.prog 59 #[.pointer (some ⟨g, 0, none⟩)] W (RetB W ok)
set_option maxRecDepth 100000 in
set_option maxHeartbeats 1000000 in
theorem l30Make_yes (k s : Int) (A : Option Addr) (n c : Nat) (zss : List (List Int)) (w : World) (ha : RR w A n zss) (hn : n ≤ 1099511627776) (hr : cells zss ≤ 1099511627776) (hj : Judge k s zss true w) :
    Calls Try.prog 38 #[.int .i64 k, .int .i64 s, .slice A n c] w (RetOC w k s zss 0) := by
  have hb1 := below_alloc w (.cells #[.int .i64 0, .int .i64 0, .slice none 0 0] 25)
  go_enter Try.func38, Try.ntmps38
  go_wp2_with fail
  refine (l17Own_any A n c zss _ (ha.keep hb1) hn hr).mono ?_
  rintro e w1 ⟨A2, n2, c2, rfl, ho, hb⟩
  have R : Blk w1 w.heap.size 25 #[.int .i64 0, .int .i64 0, .slice none 0 0] := (Blk.new w 25 #[.int .i64 0, .int .i64 0, .slice none 0 0]).after hb
  have ho' : OR w1 (w.heap.size + 1) 51 2 A2 n2 c2 zss := by simpa using ho
  have hw : Below w.heap.size w w1 := hb1.trans (hb.mono (by simp))
  have hk := ho'.os_cap
  clear ho hb ha hb1
  have X := Blk.new w1 25 #[.int .i64 k, .int .i64 s, .slice A2 n2 c2]
  have hw2 : Below w.heap.size w (w1.alloc (.cells #[.int .i64 k, .int .i64 s, .slice A2 n2 c2] 25)) := hw.alloc hw.size _
  have ho2 := ho'.alloc (.cells #[.int .i64 k, .int .i64 s, .slice A2 n2 c2] 25)
  have R2 := R.alloc (.cells #[.int .i64 k, .int .i64 s, .slice A2 n2 c2] 25)
  have hcall := hj w1.heap.size A2 n2 c2 _ hw2 X ho2.reads hk.1 hk.2
  go_wp2_with fail
  refine hcall.mono ?_
  rintro e w2 ⟨rfl, hb2⟩
  have X3 := X.after hb2
  have R3 := R2.after hb2
  have ho3 := ho2.below hb2
  have hw3 := hw2.trans (hb2.mono hw2.size)
  clear hcall hj X R2 R ho2 ho' hw hw2 hb2
  obtain ⟨x0, x1, x2⟩ := X3.cells3
  obtain ⟨z0, z1, z2⟩ := R3.cells3
  have f0 := R3.frozen 0
  have f1 := R3.frozen 1
  have f2 := R3.frozen 2
  go_wp2
  refine bodyPost_ret (v := .tuple #[.agg #[.int .i64 k, .int .i64 s, .slice A2 n2 c2], .int .i64 0]) (by simp [results, Try.results38, go_sem, z0, z1, z2]) rfl ⟨A2, n2, c2, rfl, ?_, ?_⟩
  · refine OR.more (B := w.heap.size + 1) ?_ (by omega)
    repeat (refine OR.setLow ?_ (by simp <;> omega) _)
    exact ho3
  · repeat (refine Below.setCell ?_ (by simp <;> omega) _)
    exact hw3
set_option maxRecDepth 100000 in
set_option maxHeartbeats 1000000 in
theorem l30Make_no (k s : Int) (A : Option Addr) (n c : Nat) (zss : List (List Int)) (w : World) (ha : RR w A n zss) (hn : n ≤ 1099511627776) (hr : cells zss ≤ 1099511627776) (hj : Judge k s zss false w) :
    Calls Try.prog 38 #[.int .i64 k, .int .i64 s, .slice A n c] w (RetOC w 0 0 [] 1) := by
  have hb1 := below_alloc w (.cells #[.int .i64 0, .int .i64 0, .slice none 0 0] 25)
  go_enter Try.func38, Try.ntmps38
  go_wp2_with fail
  refine (l17Own_any A n c zss _ (ha.keep hb1) hn hr).mono ?_
  rintro e w1 ⟨A2, n2, c2, rfl, ho, hb⟩
  have R : Blk w1 w.heap.size 25 #[.int .i64 0, .int .i64 0, .slice none 0 0] := (Blk.new w 25 #[.int .i64 0, .int .i64 0, .slice none 0 0]).after hb
  have ho' : OR w1 (w.heap.size + 1) 51 2 A2 n2 c2 zss := by simpa using ho
  have hw : Below w.heap.size w w1 := hb1.trans (hb.mono (by simp))
  have hk := ho'.os_cap
  clear ho hb ha hb1
  have X := Blk.new w1 25 #[.int .i64 k, .int .i64 s, .slice A2 n2 c2]
  have hw2 : Below w.heap.size w (w1.alloc (.cells #[.int .i64 k, .int .i64 s, .slice A2 n2 c2] 25)) := hw.alloc hw.size _
  have ho2 := ho'.alloc (.cells #[.int .i64 k, .int .i64 s, .slice A2 n2 c2] 25)
  have R2 := R.alloc (.cells #[.int .i64 k, .int .i64 s, .slice A2 n2 c2] 25)
  have hcall := hj w1.heap.size A2 n2 c2 _ hw2 X ho2.reads hk.1 hk.2
  go_wp2_with fail
  refine hcall.mono ?_
  rintro e w2 ⟨rfl, hb2⟩
  have X3 := X.after hb2
  have R3 := R2.after hb2
  have ho3 := ho2.below hb2
  have hw3 := hw2.trans (hb2.mono hw2.size)
  clear hcall hj X R2 R ho2 ho' hw hw2 hb2
  obtain ⟨x0, x1, x2⟩ := X3.cells3
  obtain ⟨z0, z1, z2⟩ := R3.cells3
  have f0 := R3.frozen 0
  have f1 := R3.frozen 1
  have f2 := R3.frozen 2
  go_wp2
  refine bodyPost_ret (v := .tuple #[.agg #[.int .i64 0, .int .i64 0, .slice none 0 0], .int .i64 1]) (by simp [results, Try.results38, go_sem, z0, z1, z2]) rfl ⟨none, 0, 0, rfl, OR.nil_ _ _ (by decide), ?_⟩
  repeat (refine Below.setCell ?_ (by simp <;> omega) _)
  exact hw3
end Go.Proofs.Ytainkgckahcdnaa
