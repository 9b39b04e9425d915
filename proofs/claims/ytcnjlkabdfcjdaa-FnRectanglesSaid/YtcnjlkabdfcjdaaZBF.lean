/- The law FnRectangles: for every input it returns true. No condition beyond those stated. -/
import Derived.Test.YtcnjlkabdfcjdaaZAR
import Derived.Test.YtcnjlkabdfcjdaaZBC
import Derived.Test.YtcnjlkabdfcjdaaZBD
import Derived.Test.YtcnjlkabdfcjdaaZBE
import Derived.Test.YtcnjlkabdfcjdaaZAX
set_option linter.unusedVariables false
set_option linter.unusedSimpArgs false
namespace Go.Proofs.Ytcnjlkabdfcjdaa
open Go.RowKit

theorem first_is {p a : List (List Int)} (hp : PartOk p) (ha : ExtOk p.length p a) : clK p 20000 = 5 ∨ (clK p 20000 = 0 ∧ clF p 20000 = a) := by
  have hK : clK p 20000 = if (clR p 1 20000).spent then 5 else if (clR p 1 20000).count = 0 then 3 else 0 := by
    unfold clK
    rw [if_pos (tB_yes hp), if_pos (by decide)]
    rfl
  cases h : (clR p 1 20000).spent with
  | true => left; rw [hK, h]; rfl
  | false =>
    right
    have h0 := clR_some hp ha h
    have h1 : clK p 20000 = 0 := by rw [hK, h, if_neg (by simp), if_neg h0]
    refine ⟨h1, ?_⟩
    unfold clF
    rw [if_pos h1]
    obtain ⟨-, e1, e2, e3, -, e5⟩ := clR_first hp h h0
    exact ext_first ha e1 e2 e3 e5
theorem keep_le' {n : Nat} {p a : List (List Int)} (h : KeepS n p a) : ∀ x y, x < n → y < n → 0 ≤ atS p x y → atS p x y = atS a x y := fun x y hx hy h0 => (h x y hx hy (by omega)).symm
set_option maxRecDepth 100000 in
set_option maxHeartbeats 4000000 in
theorem law_Rectangles_ok (A0 : Option Addr) (n0 c0 : Nat) (bs : List Int) (w : World) (ha : RS EByte w A0 n0 bs) (hn0 : n0 ≤ 1048576) :
    Calls Try.prog 6 #[.slice A0 n0 c0] w fun e w' => e = .returned (.bool true) ∧ Below w.heap.size w w' := by
  go_enter Try.func6, Try.ntmps6
  go_wp2_with fail
  refine (b10Long_no A0 n0 c0 _ hn0).mono ?_
  rintro e w' ⟨rfl, rfl⟩
  go_wp2_with fail
  refine (drawExtendRectangle_any A0 n0 c0 bs w ha (by omega)).mono ?_
  rintro e w1 ⟨X, n, xc, p, rfl, hX, hxc, hn, hb1⟩
  have hpl := hX.len
  go_wp2_with fail
  refine (extendRectangle_any X n xc p w1 hX hxc.1 hxc.2).mono ?_
  rintro e w2 ⟨FA, fn, fk, k, rfl, hb2, hcase⟩
  have hw2 := hb1.trans (hb2.mono hb1.size)
  have hX2 := hX.keep hb2
  clear hb1 hX
  rcases hcase with ⟨rfl, hno, rfl, rfl, rfl⟩ | ⟨rfl, hyes, rfl, rfl, rfl⟩ | ⟨rfl, hp, rfl, a, hok, hra⟩
  · have hv := specValidPartial_any X n xc p w2 hX2 hxc.1 hxc.2
    rw [tB_no hno] at hv
    clear hno hX2 hb2
    go_wp2_with (go_at_call 29; refine hv.mono ?_; rintro e w3 ⟨rfl, hb3⟩)
    go_ret
    exact ⟨rfl, hw2.trans (hb3.mono hw2.size)⟩
  · have hv := specValidPartial_any X n xc p w2 hX2 hxc.1 hxc.2
    rw [tB_yes hyes] at hv
    clear hyes hX2 hb2
    go_wp2_with (go_at_call 29; refine hv.mono ?_; rintro e w3 ⟨rfl, hb3⟩)
    go_ret
    exact ⟨rfl, hw2.trans (hb3.mono hw2.size)⟩
  · have hcp := completePartial_any X fn xc p 20000 w2 hX2 hxc.1 hxc.2
    have hok' := hok
    rw [← hpl] at hok'
    have hfi := first_is hp hok'
    clear hok'
    have hsq := full_square hok.sq hok.full (by have := hp.1; omega) hn
    have HSQ := Lib.hid hsq
    have HOK := Lib.hid hok
    have hpr : ∀ i, i < fn → (row p i).length = fn := by have := hp.2.2.row; rwa [hpl] at this
    have HPR := Lib.hid hpr
    clear hsq hok hp hpr hb2
    go_wp2_with fail
    refine hcp.mono ?_
    rintro e w3 ⟨GA, gn, gk, rfl, hog, hb3⟩
    have hw3 := hw2.trans (hb3.mono hw2.size)
    have hX3 := hX2.keep hb3
    have hra3 := hra.keep hb3
    clear hcp hX2 hra hb3
    have hsqa := validSquare_any FA fn fk a w3 hra3 (by omega) (psq_cells HOK.out.sq hn)
    rw [tB_yes HSQ.out] at hsqa
    rcases hfi with h5 | ⟨h0, hF⟩
    · rw [h5]
      clear hog h5
      go_wp2_with fail
      refine hsqa.mono ?_
      rintro e w4 ⟨rfl, hb4⟩
      have hw4 := hw3.trans (hb4.mono hw3.size)
      have hkp := b10Keeps_yes X fn xc p FA fk a w4 (hX3.keep hb4) (hra3.keep hb4) (by omega) HPR.out HOK.out.sq.row (keep_le' HOK.out.keep)
      clear hsqa hb4
      go_wp2_with fail
      refine hkp.mono ?_
      rintro e w5 ⟨rfl, hd5⟩
      have hw5 := hw4.trans (hd5.below.mono hw4.size)
      clear hkp hd5
      go_wp2
      go_ret
      exact ⟨rfl, hw5⟩
    · rw [h0]
      rw [hF] at hog
      clear h0 hF
      go_wp2_with fail
      refine hsqa.mono ?_
      rintro e w4 ⟨rfl, hb4⟩
      have hw4 := hw3.trans (hb4.mono hw3.size)
      have hra4 := hra3.keep hb4
      have hkp := b10Keeps_yes X fn xc p FA fk a w4 (hX3.keep hb4) hra4 (by omega) HPR.out HOK.out.sq.row (keep_le' HOK.out.keep)
      have hog4 := hog.below hb4
      have hgl := hog4.len
      have hal := hra4.len
      clear hsqa hb4 hog
      go_wp2_with fail
      refine hkp.mono ?_
      rintro e w5 ⟨rfl, hd5⟩
      have hw5 := hw4.trans (hd5.below.mono hw4.size)
      have hli := b10Lists_any FA GA fn gn fk gk a a w5 (hra4.keep hd5.below) (hog4.below hd5.below).reads (by omega) (by omega)
      rw [decide_eq_true (p := a = a) rfl] at hli
      clear hkp hd5
      go_wp2_with fail
      refine hli.mono ?_
      rintro e w6 ⟨rfl, hd6⟩
      have hw6 := hw5.trans (hd6.below.mono hw5.size)
      clear hli hd6
      go_wp2
      go_ret
      exact ⟨rfl, hw6⟩
set_option maxRecDepth 100000 in
theorem law_Rectangles (A : Option Addr) (n c : Nat) (zs : List Int) (w : World) (ha : RS EByte w A n zs) (hn : n ≤ c) (hc : c ≤ 9223372036854775807) :
    Calls Try.prog 6 #[.slice A n c] w fun e w' => e = .returned (.bool true) ∧ Below w.heap.size w w' := by
  by_cases h1 : n ≤ 1048576
  · exact law_Rectangles_ok A n c zs w ha h1
  · go_enter Try.func6, Try.ntmps6
    go_wp2_with fail
    refine (b10Long_yes A n c _ (by omega)).mono ?_
    rintro e w' ⟨rfl, rfl⟩
    go_wp2
    go_ret
    exact ⟨rfl, Below.refl _ _⟩
end Go.Proofs.Ytcnjlkabdfcjdaa
