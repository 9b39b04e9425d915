/- The source of choices among other memory: a state behind more calls; permutations that are drawn. No condition beyond those stated. -/
import Derived.Test.YtdkbcjdimhgmnaaGreatRIJ
import Derived.Test.YtdkbcjdimhgmnaaGreatRIE
set_option linter.unusedVariables false
set_option linter.unusedSimpArgs false
namespace Go.Proofs.YtdkbcjdimhgmnaaGreat
open Go.RowKit
structure SrW (w w' : World) (g p : Nat) : Prop where
  src : Src w' g p
  gl : g < w.heap.size
  grown : w.grownBy w' (some g)
section
variable {w w' w'' : World} {g p q : Nat}
theorem SrW.start (h : Src w g p) : SrW w w g p := ⟨h, h.lt, World.grownBy.refl w _⟩
theorem SrW.size (h : SrW w w' g p) : w.heap.size ≤ w'.heap.size := h.grown.size
theorem SrW.next (h : SrW w w' g p) (hs : Src w'' g q) (hg : w'.grownBy w'' (some g)) : SrW w w'' g q := ⟨hs, h.gl, h.grown.trans hg⟩
theorem SrW.then_ (h : SrW w w' g p) (k : SrW w' w'' g q) : SrW w w'' g q := ⟨k.src, h.gl, h.grown.trans k.grown⟩
theorem SrW.step (h : SrW w w' g p) (hb : Below w'.heap.size w' w'') : SrW w w'' g p := ⟨h.src.below hb, h.gl, h.grown.trans (grownBy_of_below hb (some g))⟩
theorem SrW.far {r : Option Nat} (h : SrW w w' g p) (hg : w'.grownBy w'' r) (hr : ∀ b, r = some b → w.heap.size ≤ b) : SrW w w'' g p :=
  ⟨h.src.kept hg (fun b e => by have := hr b e; have := h.gl; omega), h.gl, ⟨hg.os.trans h.grown.os, hg.tape.trans h.grown.tape, hg.output.trans h.grown.output, Nat.le_trans h.grown.size hg.size, fun k hk hne => by
    rw [hg.block k (Nat.lt_of_lt_of_le hk h.grown.size) (fun e => by have := hr k e.symm; omega)]
    exact h.grown.block k hk hne⟩⟩
theorem OI.src {e : TypeId} {A : Option Addr} {n c : Nat} {zs : List Int} (h : OI w' w.heap.size e A n c zs) (hs : SrW w w' g p) (hg : w'.grownBy w'' (some g)) : OI w'' w.heap.size e A n c zs :=
  h.kept hg (by
    cases A with
    | none => exact .inl rfl
    | some a => exact .inr fun e => by have := (h.os.lt (k := a.block) rfl).1; have := hs.gl; simp only [blk, Option.map_some, Option.some.injEq] at e; omega)
end
def RetDP (w : World) (g p n : Nat) (e : Ending) (w' : World) : Prop := ∃ A c zs q, e = .returned (.slice A n c) ∧ OI w' w.heap.size 2 A n c zs ∧ zs.length = n ∧ Perm zs ∧ SrW w w' g q ∧ q ≤ p + 2 * n
theorem perm_swap {n : Nat} {zs : List Int} (hl : zs.length = n) (hp : Perm zs) {i k : Nat} (hi : i < n) (hk : k < n) : ((zs.set i (nth zs k)).set k (nth zs i)).length = n ∧ Perm ((zs.set i (nth zs k)).set k (nth zs i)) := by
  have hlen : ((zs.set i (nth zs k)).set k (nth zs i)).length = n := by simp [hl]
  have hn : ∀ v, v < n → nth ((zs.set i (nth zs k)).set k (nth zs i)) v = nth zs (if v = k then i else if v = i then k else v) := fun v hv => by
    rw [nth_set (by simp [hl, hv]), nth_set (by rw [hl]; exact hv)]
    by_cases e1 : v = k
    · rw [if_pos e1, if_pos e1.symm]
    · rw [if_neg e1, if_neg (fun e => e1 e.symm)]
      by_cases e2 : v = i
      · rw [if_pos e2, if_pos e2.symm]
      · rw [if_neg e2, if_neg (fun e => e2 e.symm)]
  have hlt : ∀ v, v < n → (if v = k then i else if v = i then k else v) < n := fun v hv => by split; exact hi; split; exact hk; exact hv
  refine ⟨hlen, perm_of hlen (fun v hv => ?_) (fun u v hu hv e => ?_)⟩
  · rw [hn v hv]
    have := hp.bd _ (by rw [hl]; exact hlt v hv)
    rw [hl] at this
    exact this
  · rw [hn u hu, hn v hv] at e
    have := perm_inj hp (by rw [hl]; exact hlt u hu) (by rw [hl]; exact hlt v hv) e
    revert this
    split <;> split <;> (try split) <;> (try split) <;> omega
set_option maxRecDepth 100000 in
set_option maxHeartbeats 800000 in
theorem l04DrawPerm_any (g p n : Nat) (w : World) (hs : Src w g p) (hp : p ≤ 562949953421312) (hn : n ≤ 4096) :
    Calls Tryz.prog 61 #[.pointer (some ⟨g, 0, none⟩), .int .i64 n] w (RetDP w g p n) := by
  have S0 := SrW.start hs
  go_enter Tryz.func61, Tryz.ntmps61
  go_wp2_with fail
  refine (l04One_any n w (by omega)).mono ?_
  rintro e w1 ⟨A, n1, c, rfl, ho, hb⟩
  obtain rfl : n1 = n := by rw [← ho.len, iotaP_len]
  have S1 := S0.step hb
  have HI : (iotaP n1).length = n1 ∧ Perm (iotaP n1) := ⟨iotaP_len _, iotaP_perm _⟩
  generalize iotaP n1 = zs at *
  clear S0 hb hs
  go_wp2
  go_loopw [6] (fun i wr => ∃ (k : Int) (q : Nat) (zs : List Int), -1 ≤ k ∧ k < n1 ∧ i = .int .i64 k ∧ OI wr w.heap.size 2 A n1 c zs ∧ (zs.length = n1 ∧ Perm zs) ∧ SrW w wr g q ∧ q + 2 * (k + 1) ≤ p + 2 * (n1 : Int)) (fun i _ => (intOf i + 1).toNat)
  case atStart => exact ⟨(n1 : Int) - 1, p, zs, by omega, by omega, by go_num, ho, HI, S1, by omega⟩
  case round =>
    clear ho HI S1
    obtain ⟨k, q, zs, h1, h2, rfl, ho, HI, S, hq⟩ := hrel
    by_cases hlt : 0 < k
    · obtain ⟨i, rfl⟩ := Int.eq_ofNat_of_zero_le (show 0 ≤ k by omega)
      go_wp2_with fail
      refine (pick_any g q ((i : Int) + 1) wr S.src (by omega) (by omega) (by omega)).mono ?_
      rintro e w2 ⟨x, q2, rfl, x0, x1, hq2, hs2, hg2⟩
      obtain ⟨y, rfl⟩ := Int.eq_ofNat_of_zero_le x0
      have ho2 := ho.src S hg2
      have S2 := S.next hs2 hg2
      obtain ⟨ga, rfl, hci, hfi, hii⟩ := ho2.cell (k := i) (by omega)
      obtain ⟨ga', hga, hcy, hfy, hiy⟩ := ho2.cell (k := y) (by omega)
      cases hga
      have HP := perm_swap HI.1 HI.2 (i := i) (k := y) (by omega) (by omega)
      have ho3 := (ho2.set i hiy).set y hii
      obtain ⟨ga', hga, hcy2, hfy2, -⟩ := (ho2.set i hiy).cell (k := y) (by omega)
      cases hga
      generalize nth (zs.set i (nth zs y)) y = b2 at *
      have hlo := (ho2.os.lt (k := ga) rfl).1
      have S3 := (S2.far (grown_putS (w := w2) (g := ga) (p := i) (u := .int .i64 (nth zs y))) (fun b e => by injection e with e; omega)).far (grown_putS (g := ga) (p := y) (u := .int .i64 (nth zs i))) (fun b e => by injection e with e; omega)
      generalize nth zs i = a at *
      generalize nth zs y = b at *
      clear S S2 ho hs2 hg2 HI
      go_wp2
      go_roundw
      case rel => exact ⟨(i : Int) - 1, q2, _, by omega, by omega, by go_num, ho3, HP, S3, by omega⟩
      case measure => simp [intOf] <;> omega
    · go_wp2
      go_ret
      exact ⟨A, c, zs, q, rfl, ho, HI.1, HI.2, S, by omega⟩
end Go.Proofs.YtdkbcjdimhgmnaaGreat
