/- slices.CompactFunc on slices of systems. No condition beyond those stated. -/
import Derived.Test.YtncknfhfkmmhbaaGreatZAU
import Derived.Test.YtncknfhfkmmhbaaGreatZAO
import Derived.Deep.QuietTactic
import Derived.BigQuiet
set_option linter.unusedVariables false
set_option linter.unusedSimpArgs false
namespace Go.Proofs.YtncknfhfkmmhbaaGreat
open Go.RowKit

def rowS (l : List (List (List Int))) (i : Nat) : List (List Int) := l.getD i []
theorem rowS_get {l : List (List (List Int))} {i : Nat} (h : i < l.length) : rowS l i = l[i] := by simp [rowS, List.getD, h]
def noneSameS (zs : List (List (List Int))) (k : Nat) : Prop := ∀ (i : Nat), i + 1 < k → rowS zs (i + 1) ≠ rowS zs i
theorem noneSameS_step {zs : List (List (List Int))} {k : Nat} (h : noneSameS zs k) (hk : 0 < k) (hne : rowS zs k ≠ rowS zs (k - 1)) : noneSameS zs (k + 1) := fun i hi => by
  rcases Nat.lt_succ_iff_lt_or_eq.1 hi with h1 | h1
  · exact h i h1
  · have e : i = k - 1 := by omega
    subst e
    rw [show k - 1 + 1 = k by omega]
    exact hne
theorem noneSameS_comp {zs : List (List (List Int))} (h : noneSameS zs zs.length) : comp zs = zs := comp_same fun k hk => by
  have := h k hk
  rwa [rowS_get hk, rowS_get (by omega)] at this
theorem compTS_start {zs : List (List (List Int))} {k : Nat} (h : noneSameS zs (k + 1)) (hk : k + 1 < zs.length) (he : rowS zs (k + 1) = rowS zs k) : CompT zs zs (k + 1) (k + 1 + 1) := by
  rw [rowS_get hk, rowS_get (by omega)] at he
  refine CompT.start hk (fun i hi hd => ?_) he
  have := h i (by omega)
  rwa [rowS_get hd, rowS_get (by omega)] at this
theorem compTS_same {d z : List (List (List Int))} {k j : Nat} (h : CompT d z k (j + 1)) (hj : j + 1 < d.length) (he : rowS d (j + 1) = rowS d j) : CompT d z k (j + 1 + 1) := by
  rw [rowS_get hj, rowS_get (by omega)] at he
  exact h.same hj he
theorem compTS_new {d z : List (List (List Int))} {k j : Nat} (h : CompT d z k (j + 1)) (hj : j + 1 < d.length) (he : rowS d (j + 1) ≠ rowS d j) : CompT d (z.set k (rowS d (j + 1))) (k + 1) (j + 1 + 1) := by
  rw [rowS_get hj, rowS_get (by omega)] at he
  rw [rowS_get hj]
  exact h.new hj he
/-- what is kept stood in the rowS before, in that order -/
abbrev PL3 := Sl × List (List Int)
/-- slices of slices in a row of the call's own, what they read as beside them -/
structure PV3 (w : World) (B : Nat) (e2 : TypeId) (g n c : Nat) (Z : List PL3) : Prop where
  os : OS w B e2 1 (some ⟨g, 0, none⟩) n c (Z.map fun p => slv p.1)
  rows : ∀ p ∈ Z, ∀ w', w.grownBy w' (some g) → RdR w' p.1 p.2
section
variable {w w' : World} {B : Nat} {e2 : TypeId} {g n c : Nat} {Z : List PL3}
theorem PV3.len (h : PV3 w B e2 g n c Z) : Z.length = n := by have := h.os.len; simpa using this
theorem PV3.drewN (h : PV3 w B e2 g n c Z) (q : Nat) : PV3 (w.drewN q) B e2 g n c Z := ⟨h.os.drewN q, fun p hp w'' hg => h.rows p hp w'' ((grownBy_of_below (below_drewn w q) _).trans hg)⟩
theorem PV3.get (h : PV3 w B e2 g n c Z) {k : Nat} (hk : k < n) : ∃ p, Z[k]? = some p ∧ w.cell? ⟨g, k, none⟩ = some (.slice p.1.1 p.1.2.1 p.1.2.2) ∧ w.frozen? ⟨g, k, none⟩ = false ∧
    p.1.2.1 ≤ p.1.2.2 ∧ p.1.2.2 ≤ 9223372036854775807 ∧ RR w p.1.1 p.1.2.1 p.2 ∧ p.2 = rowS (Z.map (·.2)) k := by
  have hl : k < Z.length := by rw [h.len]; exact hk
  have hz := List.getElem?_eq_getElem hl
  obtain ⟨g', e1, hc, hf⟩ := h.os.cell (j := k) (u := slv Z[k].1) (by rw [List.getElem?_map, hz]; rfl)
  injection e1 with e1
  injection e1 with e1
  subst e1
  obtain ⟨a, b, d⟩ := h.rows _ (List.getElem_mem hl) w (World.grownBy.refl _ _)
  exact ⟨_, hz, hc, hf, a, b, d, by rw [rowS_get (by simpa using hl)]; simp⟩
theorem PV3.set (h : PV3 w B e2 g n c Z) (q : Nat) {p : PL3} (hp : p ∈ Z) : PV3 (w.setCell ⟨g, q, none⟩ (.slice p.1.1 p.1.2.1 p.1.2.2)) B e2 g n c (Z.set q p) := by
  refine ⟨?_, fun u hu w'' hg => ?_⟩
  · have := h.os.set q (slv p.1)
    rwa [show (Z.map fun p => slv p.1).set q (slv p.1) = (Z.set q p).map fun p => slv p.1 by rw [List.map_set]] at this
  · have hu' : u ∈ Z := (List.mem_or_eq_of_mem_set hu).elim id (fun e => e ▸ hp)
    exact h.rows u hu' w'' ((grown_set (g := g)).trans hg)
theorem PV3.cut {k : Nat} (h : PV3 w B e2 g n c Z) (hg : w.grownBy w' (some g)) (ho : OS w' B e2 1 (some ⟨g, 0, none⟩) k c ((Z.map fun p => slv p.1).take k)) : PV3 w' B e2 g k c (Z.take k) :=
  ⟨by rwa [← List.map_take] at ho, fun p hp w'' hg2 => h.rows p (List.mem_of_mem_take hp) w'' (hg.trans hg2)⟩
end
theorem sys_zero : ∀ w, (zeroValue 46).run Tryz.prog w = .ok (.slice none 0 0) w := fun _ => by kernel_rfl
set_option maxRecDepth 100000 in
set_option maxHeartbeats 2000000 in
theorem compactS_sub (B g n c : Nat) (Z : List PL3) (w : World) (ho : PV3 w B 46 g n c Z) (hn : n ≤ 1048576) (hgl : g < w.heap.size) :
    Calls Tryz.prog 29 #[.slice (some ⟨g, 0, none⟩) n c, .func (.func 30) #[] #[]] w (fun e w' => ∃ m Y, e = .returned (.slice (some ⟨g, 0, none⟩) m c) ∧ PV3 w' B 46 g m c Y ∧ Y.map (·.2) = comp (Z.map (·.2)) ∧ Y.Sublist Z ∧ w.grownBy w' (some g)) := by
  have hlen := ho.len
  generalize hD : Z.map (·.2) = D at *
  have hla := Lib.hid (show D.length = n by rw [← hD, List.length_map]; exact hlen)
  have HD := Lib.hid hD
  clear hD
  have hcap := ho.os.cap
  have hz0 : ∀ w, (zeroValue 46).run Tryz.prog w = .ok (.slice none 0 0) w := fun _ => by kernel_rfl
  by_cases h2 : n < 2
  · have HC := Lib.hid (comp_short (l := D) (by rw [hla.out]; exact h2))
    clear hz0
    go_enter Tryz.func29, Tryz.ntmps29
    go_wp2
    go_ret
    exact ⟨n, Z, rfl, ho, by rw [HC.out, HD.out], List.Sublist.refl _, World.grownBy.refl _ _⟩
  · go_enter Tryz.func29, Tryz.ntmps29
    go_wp2
    go_loopw [5] (fun i wr => ∃ k : Nat, k + 1 ≤ n ∧ i = .int .i64 ((k : Int) + 1) ∧ Drawn w wr ∧ noneSameS D (k + 1)) (fun i _ => n - (intOf i).toNat)
    case atStart => exact ⟨0, by omega, rfl, Drawn.refl _, fun i hi => by omega⟩
    case round =>
      obtain ⟨k, hk, rfl, hd, hs⟩ := hrel
      have hod : PV3 wr B 46 g n c Z := by obtain ⟨q, rfl⟩ := hd; exact ho.drewN q
      by_cases hlt : k + 1 < n
      · have hlt2 : decide ((k : Int) + 1 < (n : Int)) = true := by simp; omega
        obtain ⟨⟨⟨A1, n1, c1⟩, z1⟩, hm1, hc1, hf1, ha1, hb1, hr1, he1⟩ := hod.get (k := k + 1) hlt
        obtain ⟨⟨⟨A0, n0, c0⟩, z0⟩, hm0, hc0, hf0, ha0, hb0, hr0, he0⟩ := hod.get (k := k) (by omega)
        rw [HD.out] at he1 he0
        simp only at hc1 ha1 hb1 hr1 he1 hc0 ha0 hb0 hr0 he0
        have hcmp := fun q => areSame_any A1 A0 n1 n0 c1 c0 z1 z0 (wr.drewN q) (hr1.drewN q) (hr0.drewN q) (by omega) (by omega)
        by_cases he : z1 = z0
        · have HT := Lib.hid (compTS_start hs (by rw [hla.out]; exact hlt) (by rw [← he1, ← he0, he]))
          have he' : decide (z1 = z0) = true := by simp [he]
          have hg0 : w.grownBy wr (some g) := by obtain ⟨q, rfl⟩ := hd; exact ⟨rfl, rfl, rfl, Nat.le_refl _, fun _ _ _ => rfl⟩
          rw [he'] at hcmp
          clear he hs he'
          go_wp2
          go_quiet ((go_at_call 30; exact Quiet.call (hcmp _)))
          go_wp2
          have hod2 : PV3 (wr.drewN nq) B 46 g n c Z := hod.drewN nq
          have hg2 : w.grownBy (wr.drewN nq) (some g) := ⟨hg0.os, hg0.tape, hg0.output, hg0.size, hg0.block⟩
          clear hod hg0 hc1 hc0 hf1 hf0 hcmp hr1 hr0 hm1 hm0 he1 he0 ha1 ha0 hb1 hb0
          generalize wr.drewN nq = wv at *
          clear hd
          go_loopw [5, 7] (fun t i w2 => ∃ (q j : Nat) (Y : List PL3), t = .int .i64 q ∧ i = .int .i64 ((j : Int) + 1) ∧ k + 1 + (j + 1) ≤ n ∧ CompT D (Y.map (·.2)) q (k + 1 + (j + 1)) ∧ SubT Z Y q (k + 1 + (j + 1)) ∧ PV3 w2 B 46 g n c Y ∧ w.grownBy w2 (some g)) (fun _ i _ => n - (intOf i).toNat)
          case atStart => exact ⟨k + 1, 0, Z, rfl, rfl, by omega, by rw [HD.out]; exact HT.out, SubT.start _ _ _ (by omega), hod2, hg2⟩
          case round =>
            clear hod2 hg2
            obtain ⟨q, j, Y, rfl, rfl, hjn, hT, hSub, hoz, hgz⟩ := hrel
            have hSub := Lib.hid hSub
            have hqj := hT.kj
            by_cases hjl : k + 1 + (j + 1) < n
            · have hjl2 : decide ((j : Int) + 1 < ((n - (k + 1) : Nat) : Int)) = true := by simp; omega
              obtain ⟨⟨⟨A1, n1, c1⟩, z1⟩, hm1, hc1, hf1, ha1, hb1, hr1, he1⟩ := hoz.get (k := k + 1 + (j + 1)) hjl
              obtain ⟨⟨⟨A0, n0, c0⟩, z0⟩, hm0, hc0, hf0, ha0, hb0, hr0, he0⟩ := hoz.get (k := k + 1 + j) (by omega)
              obtain ⟨pq, hmq, hcq, hfq, _⟩ := hoz.get (k := q) (by omega)
              rw [show rowS (Y.map (·.2)) (k + 1 + (j + 1)) = rowS D (k + 1 + (j + 1)) by unfold rowS List.getD; rw [hT.rest _ (by omega)]] at he1
              rw [show rowS (Y.map (·.2)) (k + 1 + j) = rowS D (k + 1 + j) by unfold rowS List.getD; rw [hT.rest _ (by omega)]] at he0
              simp only at hc1 ha1 hb1 hr1 he1 hc0 ha0 hb0 hr0 he0
              have hcmp := fun t => areSame_any A1 A0 n1 n0 c1 c0 z1 z0 (wr.drewN t) (hr1.drewN t) (hr0.drewN t) (by omega) (by omega)
              by_cases he : z1 = z0
              · have HT2 := Lib.hid (compTS_same (j := k + 1 + j) hT (by rw [hla.out]; exact hjl) (by rw [show k + 1 + j + 1 = k + 1 + (j + 1) by omega, ← he1, ← he0, he]))
                have he' : decide (z1 = z0) = true := by simp [he]
                rw [he'] at hcmp
                have HO := Lib.hid (fun t => hoz.drewN t : ∀ t, PV3 (wr.drewN t) B 46 g n c Y)
                clear he he' hT hoz hcq hfq hm1 hm0 hmq he1 he0
                go_wp2
                go_quiet ((go_at_call 30; exact Quiet.call (hcmp _)))
                go_wp2
                have ho3 := HO.out nq
                have hg3 : w.grownBy (wr.drewN nq) (some g) := ⟨hgz.os, hgz.tape, hgz.output, hgz.size, hgz.block⟩
                go_roundw
                case rel => exact ⟨q, j + 1, Y, rfl, by go_num, by omega, HT2.out, hSub.out.same, ho3, hg3⟩
                case measure => simp [intOf]; omega
              · have HT2 := Lib.hid (compTS_new (j := k + 1 + j) hT (by rw [hla.out]; exact hjl) (by rw [show k + 1 + j + 1 = k + 1 + (j + 1) by omega, ← he1, ← he0]; exact he))
                have he' : decide (z1 = z0) = false := by simp [he]
                rw [he'] at hcmp
                have HO := Lib.hid (fun t => (hoz.drewN t).set q (List.mem_of_getElem? hm1) : ∀ t, PV3 ((wr.drewN t).setCell ⟨g, q, none⟩ (.slice A1 n1 c1)) B 46 g n c (Y.set q ((A1, n1, c1), z1)))
                have hSub2 := Lib.hid (hSub.out.new hm1 (by omega))
                have HM := Lib.hid (show (Y.set q ((A1, n1, c1), z1)).map (·.2) = (Y.map (·.2)).set q (rowS D (k + 1 + (j + 1))) by rw [List.map_set, ← he1])
                clear he he' hT hoz hm1 hm0 hmq he1 he0
                go_wp2
                go_quiet ((go_at_call 30; exact Quiet.call (hcmp _)))
                go_wp2
                have ho3 := HO.out nq
                have hg3 : w.grownBy ((wr.drewN nq).setCell ⟨g, q, none⟩ (.slice A1 n1 c1)) (some g) := (show w.grownBy (wr.drewN nq) (some g) from ⟨hgz.os, hgz.tape, hgz.output, hgz.size, hgz.block⟩).trans grown_set
                go_roundw
                case rel => exact ⟨q + 1, j + 1, _, by go_num, by go_num, by omega, by rw [HM.out]; exact HT2.out, hSub2.out, ho3, hg3⟩
                case measure => simp [intOf]; omega
            · have hend := CompT.done (k := q) (by rw [hla.out]; rwa [show k + 1 + (j + 1) = n by omega] at hT)
              have HE := Lib.hid hend
              have hq : q < n := by omega
              clear hT hend
              go_wp2_with (refine wpList_clear _ rfl (.tmp 61) 44 rfl 46 (.slice none 0 0) Tryz.underlying44 hz0 rfl rfl B g q n (n - q) c (c - q) _ hoz.os rfl (by omega) (by omega) ?_; intro w5 ho5 hg5)
              have ho6 := hoz.cut hg5 ho5
              go_wp2
              go_ret
              exact ⟨q, _, rfl, ho6, by rw [List.map_take]; exact HE.out.1, hSub.out.done, hgz.trans hg5⟩
        · have HS := Lib.hid (noneSameS_step (k := k + 1) hs (by omega) (by rw [show k + 1 - 1 = k by omega, ← he1, ← he0]; exact he))
          have he' : decide (z1 = z0) = false := by simp [he]
          rw [he'] at hcmp
          clear he hs he'
          go_wp2
          go_quiet ((go_at_call 30; exact Quiet.call (hcmp _)))
          go_wp2
          go_roundw
          case rel => exact ⟨k + 1, by omega, by go_num, hd.more _, HS.out⟩
          case measure => simp [intOf]; omega
      · have HC := Lib.hid (noneSameS_comp (zs := D) (by rw [hla.out, show n = k + 1 by omega]; exact hs))
        have hg0 : w.grownBy wr (some g) := by obtain ⟨q, rfl⟩ := hd; exact ⟨rfl, rfl, rfl, Nat.le_refl _, fun _ _ _ => rfl⟩
        clear hs
        go_wp2
        go_ret
        exact ⟨n, Z, rfl, hod, by rw [HC.out, HD.out], List.Sublist.refl _, hg0⟩
theorem compactS_any (B : Nat) (A : Option Addr) (n c : Nat) (vs : List Sl) (l : List (List (List Int))) (w : World) (h : SV RdR w B 46 A n c vs l) (hn : n ≤ 1048576) (hpos : 0 < n) :
    Calls Tryz.prog 29 #[.slice A n c, .func (.func 30) #[] #[]] w (fun e w' => ∃ m, e = .returned (.slice A m c) ∧ (∃ vs', SV RdR w' B 46 A m c vs' (comp l)) ∧ w.grownBy w' (blk A)) := by
  obtain ⟨g, v0, x0, rfl, -, -, -, -, -⟩ := h.at_ hpos
  have hz1 : (vs.zip l).map (·.1) = vs := by rw [List.map_fst_zip (by have := h.len; omega)]
  have hz2 : (vs.zip l).map (·.2) = l := by rw [List.map_snd_zip (by have := h.len; omega)]
  have hpv : PV3 w B 46 g n c (vs.zip l) := ⟨by
    have := h.os
    rw [← hz1, List.map_map] at this
    exact this, fun p hp w' hg => by
    obtain ⟨j, hj⟩ := List.getElem?_of_mem hp
    rw [List.getElem?_zip_eq_some] at hj
    exact h.rd j p.1 p.2 hj.1 hj.2 w' hg⟩
  have hgl : g < w.heap.size := (h.os.lt (k := g) rfl).2
  refine (compactS_sub B g n c _ w hpv hn hgl).mono ?_
  rintro e w' ⟨m, Y, rfl, h1, h2, -, h4⟩
  rw [hz2] at h2
  refine ⟨m, rfl, ⟨Y.map (·.1), ?_⟩, h4⟩
  rw [← h2]
  refine ⟨by have := h1.os; rw [List.map_map]; exact this, by simp, fun j v x hv hx w'' hg => ?_⟩
  rw [List.getElem?_map] at hv hx
  cases hq : Y[j]? with
  | none => rw [hq] at hv; cases hv
  | some q =>
    rw [hq] at hv hx
    simp only [Option.map_some, Option.some.injEq] at hv hx
    subst hv; subst hx
    exact h1.rows q (List.mem_of_getElem? hq) w'' hg
end Go.Proofs.YtncknfhfkmmhbaaGreat
