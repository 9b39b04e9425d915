/- Orbits of a group of permutations, plain. No program in sight. -/
import Derived.Test.YtjgihhnplckjoaaGreatGG
import Derived.Test.YtjgihhnplckjoaaGreatHD
import Derived.Test.YtjgihhnplckjoaaGreatGK
import Derived.Test.YtjgihhnplckjoaaGreatGD
import Derived.Test.YtjgihhnplckjoaaGreatGI
set_option linter.unusedVariables false
set_option linter.unusedSimpArgs false
namespace Go.Proofs.YtjgihhnplckjoaaGreat

/-- where some permutations lead a number -/
def orbL (L : List (List Int)) (v : Nat) : List Int := L.map fun p => nth p v
theorem orbL_len (L : List (List Int)) (v : Nat) : (orbL L v).length = L.length := by simp [orbL]
theorem orbL_nth {L : List (List Int)} {v j : Nat} (h : j < L.length) : nth (orbL L v) j = nth (row L j) v := by
  rw [nth_get (by rw [orbL_len]; exact h), row_get h]
  simp [orbL]
theorem orbL_step {L : List (List Int)} {v j : Nat} (h : j < L.length) : (orbL L v).take j ++ [nth (row L j) v] = (orbL L v).take (j + 1) := by
  rw [List.take_succ_eq_append_getElem (by rw [orbL_len]; exact h), ← nth_get, orbL_nth h]
structure Grp (n : Nat) (L : List (List Int)) : Prop where
  bd : ∀ p ∈ L, ∀ v, v < n → 0 ≤ nth p v ∧ nth p v < (n : Int)
  refl : ∀ v : Nat, v < n → (v : Int) ∈ orbL L v
  symm : ∀ u v : Nat, u < n → v < n → (v : Int) ∈ orbL L u → (u : Int) ∈ orbL L v
  trans : ∀ t u v : Nat, t < n → u < n → v < n → (u : Int) ∈ orbL L t → (v : Int) ∈ orbL L u → (v : Int) ∈ orbL L t
section
variable {n : Nat} {L : List (List Int)}
theorem Grp.mem (h : Grp n L) {v : Nat} (hv : v < n) {x : Int} (hx : x ∈ orbL L v) : ∃ u : Nat, x = u ∧ u < n := by
  obtain ⟨p, hp, rfl⟩ := List.mem_map.1 hx
  have := h.bd p hp v hv
  exact ⟨(nth p v).toNat, by omega, by omega⟩
/-- a number is the least one of its orbit -/
def leadB (L : List (List Int)) (v : Nat) : Bool := nth (srt (orbL L v)) 0 == (v : Int)
theorem srt_least {l : List Int} (hl : l ≠ []) : nth (srt l) 0 ∈ l ∧ ∀ x ∈ l, nth (srt l) 0 ≤ x := by
  have hlen : 0 < (srt l).length := by rw [srt_len]; exact List.length_pos_iff.2 hl
  refine ⟨(srt_mem l _).1 (by rw [nth_get hlen]; exact List.getElem_mem hlen), fun x hx => ?_⟩
  have hx' := (srt_mem l x).2 hx
  obtain ⟨k, hk, rfl⟩ := List.mem_iff_getElem.1 hx'
  rw [nth_get hlen]
  rcases Nat.eq_zero_or_pos k with h | h
  · subst h; exact Int.le_refl _
  · exact List.pairwise_iff_getElem.1 (srt_le l) 0 k hlen hk h
theorem Grp.lead_iff (h : Grp n L) {v : Nat} (hv : v < n) : leadB L v = true ↔ ∀ x ∈ orbL L v, (v : Int) ≤ x := by
  have hne : orbL L v ≠ [] := List.ne_nil_of_mem (h.refl v hv)
  obtain ⟨h1, h2⟩ := srt_least hne
  unfold leadB
  rw [beq_iff_eq]
  constructor
  · intro e x hx
    rw [← e]; exact h2 x hx
  · intro k
    have h3 := k _ h1
    have h4 := h2 _ (h.refl v hv)
    omega
/-- .. in the orbit of a least one among the first k -/
def seenB (L : List (List Int)) (k u : Nat) : Bool := (List.range k).any fun t => leadB L t && (orbL L t).contains (u : Int)
theorem seenB_zero (L : List (List Int)) (u : Nat) : seenB L 0 u = false := rfl
theorem seenB_step (L : List (List Int)) (k u : Nat) : seenB L (k + 1) u = (seenB L k u || (leadB L k && (orbL L k).contains (u : Int))) := by
  unfold seenB
  rw [List.range_succ, List.any_append]
  simp
theorem seenB_iff (L : List (List Int)) (k u : Nat) : seenB L k u = true ↔ ∃ t, t < k ∧ leadB L t = true ∧ (u : Int) ∈ orbL L t := by
  unfold seenB
  rw [List.any_eq_true]
  constructor
  · rintro ⟨t, ht, hq⟩
    rw [Bool.and_eq_true] at hq
    exact ⟨t, by simpa using ht, hq.1, by simpa using hq.2⟩
  · rintro ⟨t, ht, h1, h2⟩
    exact ⟨t, by simpa using ht, by rw [Bool.and_eq_true]; exact ⟨h1, by simpa using h2⟩⟩
theorem Grp.seen (h : Grp n L) {v : Nat} (hv : v < n) : seenB L v v = !leadB L v := by
  cases hl : leadB L v with
  | true =>
    cases hs : seenB L v v with
    | false => rfl
    | true =>
      obtain ⟨t, ht, _, h2⟩ := (seenB_iff L v v).1 hs
      have h3 := h.symm t v (by omega) hv h2
      have := (h.lead_iff hv).1 hl _ h3
      omega
  | false =>
    have hne : orbL L v ≠ [] := List.ne_nil_of_mem (h.refl v hv)
    obtain ⟨h1, h2⟩ := srt_least hne
    obtain ⟨m, hm, hmn⟩ := h.mem hv h1
    have hmv : m < v := by
      have h3 := h2 _ (h.refl v hv)
      have h4 : nth (srt (orbL L v)) 0 ≠ v := fun e => by rw [leadB, e] at hl; simp at hl
      omega
    rw [hm] at h1
    refine (seenB_iff L v v).2 ⟨m, hmv, (h.lead_iff hmn).2 fun x hx => ?_, h.symm v m hv hmn h1⟩
    obtain ⟨u, rfl, hu⟩ := h.mem hmn hx
    have h5 := h.trans v m u hv hmn hu h1 hx
    have := h2 _ h5
    omega
/-- the orbits of the least ones among the first k -/
def orbT (L : List (List Int)) (k : Nat) : List (List Int) := ((List.range k).filter (leadB L)).map fun v => setG sgnI (orbL L v)
theorem orbT_zero (L : List (List Int)) : orbT L 0 = [] := rfl
theorem orbT_yes {L : List (List Int)} {k : Nat} (h : leadB L k = true) : orbT L (k + 1) = orbT L k ++ [setG sgnI (orbL L k)] := by
  unfold orbT
  rw [List.range_succ, List.filter_append, List.map_append]
  simp [h]
theorem orbT_no {L : List (List Int)} {k : Nat} (h : leadB L k = false) : orbT L (k + 1) = orbT L k := by
  unfold orbT
  rw [List.range_succ, List.filter_append, List.map_append]
  simp [h]
theorem orbT_len (L : List (List Int)) (k : Nat) : (orbT L k).length ≤ k := by
  unfold orbT
  rw [List.length_map]
  exact Nat.le_trans (List.length_filter_le _ _) (by simp)
theorem orbT_row {L : List (List Int)} {k : Nat} {r : List Int} (h : r ∈ orbT L k) : r.length ≤ L.length := by
  unfold orbT at h
  obtain ⟨v, _, rfl⟩ := List.mem_map.1 h
  have := setG_len (c := sgnI) (orbL L v)
  rw [orbL_len] at this
  exact this
theorem comp_srtO (l : List Int) : comp (srt l) = setG sgnI l := setG_comp sgnI_ord (srt_sorted l) fun x => srt_mem l x
theorem setG_take1 {l : List Int} {k : Nat} (h : k < l.length) : putG sgnI (setG sgnI (l.take k)) (nth l k) = setG sgnI (l.take (k + 1)) := by
  rw [List.take_succ_eq_append_getElem h, setG_snoc, nth_get h]
end
theorem aut_grp {cs : List Int} {es : List Ed} {b : Nat} (he : EdgesOk cs.length es) (h : (runP cs es b).spent = false) : Grp cs.length (autsP (runP cs es b)) := by
  have hm := autsP_mem he h
  have hx : ∀ (v : Nat) (x : Int), x ∈ orbL (autsP (runP cs es b)) v ↔ ∃ s, Aut cs es s ∧ nth s v = x := fun v x => by
    unfold orbL
    rw [List.mem_map]
    constructor
    · rintro ⟨p, hp, e⟩; exact ⟨p, (hm p).1 hp, e⟩
    · rintro ⟨s, hs, e⟩; exact ⟨s, (hm s).2 hs, e⟩
  refine ⟨fun p hp v hv => ?_, fun v hv => ?_, fun u v hu hv h1 => ?_, fun t u v ht hu hv h1 h2 => ?_⟩
  · have ha := (hm p).1 hp
    have := ha.perm.bd v (by rw [ha.len]; exact hv)
    rw [ha.len] at this
    exact this
  · exact (hx v v).2 ⟨_, Aut.id cs es, iotaP_nth hv⟩
  · obtain ⟨s, hs, e⟩ := (hx u v).1 h1
    refine (hx v u).2 ⟨_, hs.inv, ?_⟩
    have := invP_nth hs.perm (v := u) (by rw [hs.len]; exact hu)
    rw [e] at this
    simpa using this
  · obtain ⟨s, hs, e⟩ := (hx t u).1 h1
    obtain ⟨s', hs', e'⟩ := (hx u v).1 h2
    refine (hx t v).2 ⟨_, hs.comp hs', ?_⟩
    rw [thenP_nth (by rw [hs.len]; exact ht), e]
    simpa using e'
end Go.Proofs.YtjgihhnplckjoaaGreat
/- VertexOrbits, the program's side. No condition beyond those stated. -/
namespace Go.Proofs.YtjgihhnplckjoaaGreat
open Go.RowKit

noncomputable def orbR (cs : List Int) (es : List Ed) (b : Int) : List (List Int) := if codeP cs es b = 0 then orbT (autL (runP cs es b.toNat).best) cs.length else []
theorem autL_row_len {n : Nat} {l : List (List Int)} (h : PermsOf n l) {k : Nat} (hk : k < l.length) : (row (autL l) k).length = n := by
  rw [autL_at hk, thenP_len]
  exact (h k hk).1
set_option maxRecDepth 100000 in
set_option maxHeartbeats 4000000 in
theorem impl_VertexOrbits (A : Option Addr) (n c : Nat) (F : Option Addr) (m d : Nat) (cs : List Int) (es : List Ed) (b : Int) (w : World) (hG : RG w A n F m cs es) (hn : n ≤ 9223372036854775807) (hm : m ≤ 9223372036854775807) :
    Calls Tryz.prog 34 #[.agg #[.slice A n c, .slice F m d], .int .i64 b] w (RetRC w 22 2 (orbR cs es b) (codeP cs es b)) := by
  have hb1 := below_alloc w (.cells #[.slice A n c, .slice F m d] 31)
  have X := Blk.new w 31 #[.slice A n c, .slice F m d]
  have hx := explored_any' _ A n c F m d cs es b (hG.keep hb1) hn hm
  rcases codeP_cases cs es b with h0 | ⟨h0, h1⟩
  · have HC := Lib.hid h0
    obtain ⟨s1, s2, s3⟩ := codeP_ok h0
    have hbl := runP_len cs es b.toNat
    have hc64 := s2.clen
    have HP := Lib.hid (run_perms cs es b.toNat)
    have HB := Lib.hid (runP_best s1)
    have HG := Lib.hid (show Grp cs.length (autL (runP cs es b.toNat).best) from aut_grp (graph_edges s2) s1)
    have HR := Lib.hid (show orbR cs es b = orbT (autL (runP cs es b.toNat).best) cs.length by rw [orbR, if_pos h0])
    have hcl := hG.ri.len
    clear h0 s1 s2
    go_enter Tryz.func34, Tryz.ntmps34
    go_wp2_with fail
    refine hx.mono ?_
    rintro e w2 ⟨hb2, v, rfl, hv⟩
    obtain ⟨w0, rfl, hb0, -, -, -, N, cN, BA, bn, bc, FA, fn, fk, FF, fm, fd, hX⟩ := hv HC.out
    rw [HC.out]
    obtain ⟨vs, hbv, -⟩ := hX.sb.best
    have hbn := hbv.slen
    have c9 := hX.cells.2.2.2.2.2
    have hbn0 : 0 < bn := by rw [← hbn]; exact List.length_pos_iff.2 HB.out
    have hau := automorphisms_any w2 w0.heap.size BA bn bc _ cs.length c9 hbv.reads hbn0 (by omega) (by omega) HP.out
    have HL := Lib.hid (show (autL (runP cs es b.toNat).best).length = bn by rw [autL_len, hbn])
    have HRL := Lib.hid (fun (k : Nat) (hk : k < bn) => autL_row_len HP.out (k := k) (by rw [hbn]; exact hk))
    have hbn2 : bn ≤ 20001 := by omega
    rw [hcl] at HRL HG HR hc64
    generalize autL (runP cs es b.toNat).best = L at *
    generalize runP cs es b.toNat = s at *
    have X2 := X.after hb2
    clear hbl hv hX hbv hbn hx HP HB c9
    obtain ⟨x0, x1⟩ := X2.cells2
    go_wp2_with fail
    refine hau.mono ?_
    rintro e w3 ⟨A3, n3, c3, rfl, ho3, hb3⟩
    obtain rfl : n3 = bn := by rw [← ho3.len, HL.out]
    have hr3 := ho3.reads
    have y0 := below_cell hb3 x0
    have hw2 := hb1.trans (hb2.mono hb1.size)
    have hw3 := hw2.trans (hb3.mono hw2.size)
    clear hau ho3 x0 x1 X2
    go_wp2
    clear y0
    go_loopw [9, 10, 11, 13, 28] (fun v _ _ _ i wr => ∃ (k : Nat) (A' : Option Addr) (m' c' : Nat), k ≤ n ∧ i = .int .i64 k ∧ v = .slice A' m' c' ∧ OR wr w3.heap.size 22 2 A' m' c' (orbT L k) ∧ Below w3.heap.size w3 wr) (fun _ _ _ _ i _ => n - (intOf i).toNat)
    case atStart => exact ⟨0, _, _, _, Nat.zero_le _, rfl, rfl, OR.nil_ _ _ (by decide), Below.refl _ _⟩
    case round =>
      obtain ⟨k, A', m', c', hk, rfl, rfl, ho, hw⟩ := hrel
      by_cases hlt : k < n
      · have HO := Lib.hid ho
        have hlm := ho.len
        have hom := orbT_len L k
        have hm64 : m' ≤ 64 := by omega
        have hsz := hw.size
        clear ho hlm hom
        go_wp2
        obtain ⟨wo, rfl⟩ : ∃ wo : World, wo = wr := ⟨_, rfl⟩
        go_loopw [11, 13, 33] (fun v _ i wi => ∃ (j : Nat) (V : Option Addr) (e : Nat), j ≤ n3 ∧ i = .int .i64 j ∧ v = .slice V j e ∧ OI wi wo.heap.size 2 V j e ((orbL L k).take j) ∧ Below wo.heap.size wo wi) (fun _ _ i _ => n3 - (intOf i).toNat)
        case atStart => exact ⟨0, _, _, Nat.zero_le _, rfl, rfl, OI.nil_ _ _ _, Below.refl _ _⟩
        case round =>
          obtain ⟨j, V, e, hj, rfl, rfl, hV, hbw⟩ := hrel
          have hw33 := hw.trans (hbw.mono hw.size)
          by_cases hjl : j < n3
          · obtain ⟨a, B1, q1, r1, rfl, hca, hq1, hr1, hri⟩ := (hr3.keep hw33).get hjl
            obtain rfl : q1 = n := by have := hri.len; rw [HRL.out j hjl] at this; omega
            obtain ⟨a2, rfl, hc2, hi2⟩ := hri.get (k := k) hlt
            have hst := Lib.hid (orbL_step (L := L) (v := k) (j := j) (by rw [HL.out]; exact hjl))
            generalize nth (row L j) k = z at *
            clear hri
            go_wp2_with (at_builtin; refine app_int _ rfl _ _ rfl wo.heap.size V j e _ rfl hV z _ rfl (by simp) hi2 (by omega) hbw.size ?_; intro V2 e2 w5 ho5 hg5 hn5)
            have hb5 := below_own hbw hg5 hbw.size (fun b hb => (hV.os.lt hb).1)
            rw [hst.out] at ho5
            clear hV hbw hg5 hn5 hca hc2 hw33
            go_roundw
            case rel => exact ⟨j + 1, _, _, by omega, by go_num, rfl, ho5, hb5⟩
            case measure => simp [intOf]; omega
          · obtain rfl : j = n3 := by omega
            rw [List.take_of_length_le (by rw [orbL_len, HL.out]; exact Nat.le_refl _)] at hV
            have hso := sort_any wo.heap.size 2 V j e _ wr hV (by omega)
            go_wp2_with fail
            refine hso.mono ?_
            rintro e1 w5 ⟨rfl, ho5, hg5⟩
            have hb5 := below_own hbw hg5 hbw.size (fun b hb => (hV.os.lt hb).1)
            obtain ⟨g5, hg, cz, -, -⟩ := ho5.cell hbn0
            obtain rfl : V = some ⟨g5, 0, none⟩ := hg
            have hcp := compactI_any wo.heap.size _ j e _ w5 ho5 (by omega)
            rw [comp_srtO] at hcp
            cases hl : leadB L k with
            | true =>
              have HT := Lib.hid (orbT_yes hl)
              have hz0 : (nth (srt (orbL L k)) 0 == (k : Int)) = true := hl
              generalize nth (srt (orbL L k)) 0 = z at *
              clear hl hV hg5 hso hbw hw33 ho5
              go_wp2_with fail
              refine hcp.mono ?_
              rintro e2 w6 ⟨m6, rfl, ho6, hg6⟩
              have hb6 := below_own hb5 hg6 hb5.size (fun b hb => (ho6.os.lt hb).1)
              obtain ⟨vs, hov⟩ := HO.out
              have hap := hov.apart_new (v := (some ⟨g5, 0, none⟩, m6, e)) (fun b hb => (ho6.os.lt hb).1)
              have ho7 := hov.below hb6
              have hr7 := ho6.more hw.size
              have hw6 := hw.trans (hb6.mono hw.size)
              clear hcp hb5 hg6 ho6 hb6 hov
              go_wp2_with (at_builtin; refine wpList_app1 _ rfl _ _ 45 rfl 22 (.slice none 0 0) 24 Tryz.underlying45 ints_info rfl (by omega) w3.heap.size A' m' c' (vs.map slv) rfl ho7.os (.slice (some ⟨g5, 0, none⟩) m6 e) rfl rfl (by omega) hw6.size ?_; intro A8 c8 w8 ho8 hg8 hn8)
              have hw8 := below_own hw6 hg8 hw6.size (fun b hb => (ho7.os.lt hb).1)
              have hi8 := ho7.push (v := (some ⟨g5, 0, none⟩, m6, e)) hr7 hap hg8 ho8
              clear ho7 hr7 hap ho8 hg8 hn8 hw6
              go_roundw
              case rel => exact ⟨k + 1, A8, m' + 1, c8, by omega, by go_num, rfl, by rw [HT.out]; exact hi8, hw8⟩
              case measure => simp [intOf]; omega
            | false =>
              have HT := Lib.hid (orbT_no hl)
              have hz0 : (nth (srt (orbL L k)) 0 == (k : Int)) = false := hl
              generalize nth (srt (orbL L k)) 0 = z at *
              have HO2 := Lib.hid (HO.out.below hb5)
              have hw5 := hw.trans (hb5.mono hw.size)
              clear hl hV hg5 hso hbw hw33 ho5 hcp
              go_wp2
              go_roundw
              case rel => exact ⟨k + 1, A', m', c', by omega, by go_num, rfl, by rw [HT.out]; exact HO2.out, hw5⟩
              case measure => simp [intOf]; omega
      · obtain rfl : k = n := by omega
        have ho2 := ho.more (Nat.le_trans hw2.size hb3.size)
        have hwf := hw3.trans (hw.mono hw3.size)
        clear ho hw
        go_wp2
        go_ret2
        exact ⟨_, _, _, by rw [HC.out]; rfl, by rw [HR.out]; exact ho2, hwf⟩
  · have HR := Lib.hid (show orbR cs es b = [] by rw [orbR, if_neg h0])
    clear h0
    go_enter Tryz.func34, Tryz.ntmps34
    go_wp2_with fail
    refine hx.mono ?_
    rintro e w2 ⟨hb2, v, rfl, -⟩
    go_wp2
    go_ret2
    exact ⟨_, _, _, rfl, by rw [HR.out]; exact OR.nil_ _ _ (by decide), hb1.trans (hb2.mono hb1.size)⟩
end Go.Proofs.YtjgihhnplckjoaaGreat
/- VertexOrbits, the reference's side, and the law. No condition beyond those stated. -/
namespace Go.Proofs.YtjgihhnplckjoaaGreat
open Go.RowKit

theorem contains_step {l : List Int} {j u : Nat} (h : j < l.length) {z : Nat} (hz : nth l j = z) (s : Bool) : (if u = z then true else (s || (l.take j).contains (u : Int))) = (s || (l.take (j + 1)).contains (u : Int)) := by
  have e : l.take (j + 1) = l.take j ++ [(z : Int)] := by rw [List.take_succ_eq_append_getElem h, ← nth_get h, hz]
  rw [e]
  by_cases hu : u = z
  · subst hu; simp
  · rw [if_neg hu]
    have : ¬ (u : Int) = (z : Int) := by omega
    simp [this]
set_option maxRecDepth 100000 in
set_option maxHeartbeats 4000000 in
theorem spec_VertexOrbits (A : Option Addr) (n c : Nat) (F : Option Addr) (m d : Nat) (cs : List Int) (es : List Ed) (b : Int) (w : World) (hG : RG w A n F m cs es) (hn : n ≤ 9223372036854775807) (hm : m ≤ 9223372036854775807) :
    Calls Tryz.prog 33 #[.agg #[.slice A n c, .slice F m d], .int .i64 b] w (ReadRC w (orbR cs es b) (codeP cs es b)) := by
  have hb1 := below_alloc w (.cells #[.slice A n c, .slice F m d] 31)
  have X := Blk.new w 31 #[.slice A n c, .slice F m d]
  have hx := l22Start_any _ A n c F m d cs es b (hG.keep hb1) hn hm
  rcases codeP_cases cs es b with h0 | ⟨h0, h1⟩
  · have HC := Lib.hid h0
    obtain ⟨s1, s2, s3⟩ := codeP_ok h0
    have hbl := runP_len cs es b.toNat
    have hc64 := s2.clen
    have HP := Lib.hid (run_perms cs es b.toNat)
    have HB := Lib.hid (runP_best s1)
    have HG := Lib.hid (show Grp cs.length (autL (runP cs es b.toNat).best) from aut_grp (graph_edges s2) s1)
    have HR := Lib.hid (show orbR cs es b = orbT (autL (runP cs es b.toNat).best) cs.length by rw [orbR, if_pos h0])
    have hcl := hG.ri.len
    clear h0 s1 s2
    go_enter Tryz.func33, Tryz.ntmps33
    go_wp2_with fail
    refine hx.mono ?_
    rintro e w2 ⟨hb2, v, rfl, hv⟩
    obtain ⟨w0, rfl, hb0, -, -, -, N, cN, BA, bn, bc, FA, fn, fk, FF, fm, fd, hX⟩ := hv HC.out
    rw [HC.out]
    obtain ⟨vs, hbv, -⟩ := hX.sb.best
    have hbn := hbv.slen
    have c9 := hX.cells.2.1
    have hbn0 : 0 < bn := by rw [← hbn]; exact List.length_pos_iff.2 HB.out
    have hr2 := hbv.reads
    have HL := Lib.hid (show (autL (runP cs es b.toNat).best).length = bn by rw [autL_len, hbn])
    have HRL := Lib.hid (fun (k : Nat) (hk : k < bn) => autL_row_len HP.out (k := k) (by rw [hbn]; exact hk))
    have HAT := Lib.hid (fun (k : Nat) (hk : k < bn) => autL_at (l := (runP cs es b.toNat).best) (k := k) (by rw [hbn]; exact hk))
    have HBN := Lib.hid hbn
    have hbn2 : bn ≤ 20001 := by omega
    rw [hcl] at HRL HG HR hc64 HP
    obtain ⟨ba, B0, m0, c0, rfl, b1, b2, b3, b4⟩ := hr2.get hbn0
    rw [add_zero_] at b1
    obtain rfl : m0 = n := by rw [← b4.len]; exact (HP.out 0 (by rw [hbn]; exact hbn0)).1
    have HQ0 := Lib.hid (HP.out 0 (by rw [hbn]; exact hbn0)).2
    generalize autL (runP cs es b.toNat).best = L at *
    generalize runP cs es b.toNat = s at *
    have X2 := X.after hb2
    have hw2 := hb1.trans (hb2.mono hb1.size)
    clear hbl hv hX hbv hbn hx HB hcl
    obtain ⟨x0, x1⟩ := X2.cells2
    have hmk := run_make_row' (P := Tryz.prog) 79 4 (.bool false) 1 Tryz.underlying79 bool_info rfl .i64 .i64 m0 (by omega) (by omega)
    have hos0 := OS.made w2 w2.heap.size 4 (.bool false) m0 (Nat.le_refl _) (by omega)
    have hb3 := below_alloc w2 (.cells (madeCells #[.bool false] m0) 4)
    generalize hW3 : w2.alloc (.cells (madeCells #[.bool false] m0) 4) = W3 at *
    have hb4 := below_alloc W3 (.cells #[] 22)
    have hos1 : OS (W3.alloc (.cells #[] 22)) w2.heap.size 4 1 (some ⟨w2.heap.size, 0, none⟩) m0 m0 (bools m0 (seenB L 0)) := by
      have := hos0.below hb4
      rwa [bools_false] at this
    have hor1 : OR (W3.alloc (.cells #[] 22)) w2.heap.size 22 2 (some ⟨W3.heap.size, 0, none⟩) 0 0 (orbT L 0) := OR.of_own (OS.lit W3 w2.heap.size 22 1 0 #[] hb3.size rfl (by omega)) (by decide)
    have hbb := hb3.trans (hb4.mono hb3.size)
    clear hos0 hb3 hb4 X X2
    go_wp2
    clear x0 x1 hmk hW3
    go_loopw [10, 11] (fun v i wr => ∃ (k : Nat) (A' : Option Addr) (m' c' : Nat), k ≤ m0 ∧ i = .int .i64 k ∧ v = .slice A' m' c' ∧ OR wr w2.heap.size 22 2 A' m' c' (orbT L k) ∧ OS wr w2.heap.size 4 1 (some ⟨w2.heap.size, 0, none⟩) m0 m0 (bools m0 (seenB L k)) ∧ Below w2.heap.size w2 wr) (fun _ i _ => m0 - (intOf i).toNat)
    case atStart => exact ⟨0, _, _, _, Nat.zero_le _, rfl, rfl, hor1, hos1, hbb⟩
    case round =>
      clear hor1 hos1 hbb
      obtain ⟨k, A', m', c', hk, rfl, rfl, ho, hse, hw⟩ := hrel
      by_cases hlt : k < m0
      · have HO := Lib.hid ho
        have hlm := ho.len
        have hom := orbT_len L k
        have hm64 : m' ≤ 64 := by omega
        have hsz := hw.size
        obtain ⟨gs, hgs, cse, -⟩ := hse.cell (bools_at hlt)
        cases hgs
        have hsn := HG.out.seen hlt
        clear ho hlm hom
        cases hl : leadB L k with
        | false =>
          rw [hl] at hsn
          rw [hsn] at cse
          have HT := Lib.hid (orbT_no hl)
          have HSE := Lib.hid (show OS wr w2.heap.size 4 1 (some ⟨w2.heap.size, 0, none⟩) m0 m0 (bools m0 (seenB L (k + 1))) by rw [bools_congr (g := seenB L k) fun u _ => by rw [seenB_step, hl]; simp]; exact hse)
          clear hl hse hsn
          go_wp2
          go_roundw
          case rel => exact ⟨k + 1, A', m', c', by omega, by go_num, rfl, by rw [HT.out]; exact HO.out, HSE.out, hw⟩
          case measure => simp [intOf]; omega
        | true =>
          rw [hl] at hsn
          rw [hsn] at cse
          have HT := Lib.hid (orbT_yes hl)
          have HLD := Lib.hid hl
          obtain ⟨wo, rfl⟩ : ∃ wo : World, wo = wr := ⟨_, rfl⟩
          have hb5 := below_alloc wo (.cells #[] 2)
          have hp5 : OI (wo.alloc (.cells #[] 2)) wo.heap.size 2 (some ⟨wo.heap.size, 0, none⟩) 0 0 (setG sgnI ((orbL L k).take 0)) := OI.lit wo wo.heap.size 2 [] (Nat.le_refl _) (by simp) All64.nil_
          obtain ⟨vs0, hov0⟩ := HO.out
          have HAP := Lib.hid (fun (v : Sl) (hn : ∀ b, blk v.1 = some b → wo.heap.size ≤ b) => hov0.apart_new hn)
          have ho5 := Lib.hid (hov0.below hb5)
          have hz5 : wo.heap.size ≤ (wo.alloc (.cells #[] 2)).heap.size := by simp
          have hse5 : OS (wo.alloc (.cells #[] 2)) w2.heap.size 4 1 (some ⟨w2.heap.size, 0, none⟩) m0 m0 (bools m0 fun u => seenB L k u || ((orbL L k).take 0).contains (u : Int)) := by
            rw [bools_congr (g := seenB L k) fun u _ => by simp]
            exact hse.below hb5
          have hw5 := hw.trans (hb5.mono hw.size)
          clear hl hse hsn hb5 HO hov0
          go_wp2
          clear cse
          go_loopw [12, 13, 14] (fun v i _ wi => ∃ (j : Nat) (V : Option Addr) (q e : Nat), j ≤ bn ∧ i = .int .i64 j ∧ v = .slice V q e ∧ q ≤ j ∧ OI wi wo.heap.size 2 V q e (setG sgnI ((orbL L k).take j)) ∧ ORv wi w2.heap.size 22 2 A' m' c' vs0 (orbT L k) ∧ wo.heap.size ≤ wi.heap.size ∧ OS wi w2.heap.size 4 1 (some ⟨w2.heap.size, 0, none⟩) m0 m0 (bools m0 fun u => seenB L k u || ((orbL L k).take j).contains (u : Int)) ∧ Below w2.heap.size w2 wi) (fun _ i _ _ => bn - (intOf i).toNat)
          case atStart => exact ⟨0, _, _, _, Nat.zero_le _, rfl, rfl, Nat.le_refl _, hp5, ho5.out, hz5, hse5, hw5⟩
          case round =>
            clear hp5 ho5 hse5 hw5 hz5
            obtain ⟨j, V, q, e, hj, rfl, rfl, hqj, hV, hor, hzw, hse, hwi⟩ := hrel
            have c9' := below_cell hwi c9
            by_cases hjl : j < bn
            · obtain ⟨ba', B1, q1, r1, hba, hca, hq1, hr1, hri⟩ := (hr2.keep hwi).get hjl
              cases hba
              obtain ⟨e1, e2⟩ := HP.out j (by rw [HBN.out]; exact hjl)
              obtain rfl : q1 = m0 := by rw [← hri.len]; exact e1
              have hb0c := below_cell hwi b1
              obtain ⟨z, hz, hzm⟩ : ∃ z : Nat, nth (row L j) k = z ∧ z < q1 := by
                have hmem : row L j ∈ L := by rw [row_get (by rw [HL.out]; exact hjl)]; exact List.getElem_mem _
                have := HG.out.bd _ hmem k hlt
                exact ⟨(nth (row L j) k).toNat, by omega, by omega⟩
              have hth := fun (W' : World) (hb : Below wr.heap.size wr W') => (show Calls Tryz.prog 53 #[.slice B1 q1 r1, .slice B0 q1 c0] W' (fun e w' => ∃ g c6, e = .returned (.slice (some ⟨g, 0, none⟩) q1 c6) ∧ w'.cell? ⟨g, k, none⟩ = some (.int .i64 (z : Int)) ∧ Below W'.heap.size W' w') by
                refine (l22Then_any B1 q1 r1 _ B0 q1 c0 _ W' (hri.keep hb) ((b4.keep hwi).keep hb) HQ0.out (HP.out.bd (by rw [HBN.out]; exact hjl)) (by omega) (by omega)).mono ?_
                rintro e w6 ⟨A6, n6, c6, rfl, ho6, hb6⟩
                rw [← HAT.out j hjl] at ho6
                obtain rfl : n6 = q1 := by have h1 := ho6.len; have h2 := HRL.out j hjl; omega
                obtain ⟨g6, rfl, cw6, -, -⟩ := ho6.cell hlt
                rw [hz] at cw6
                exact ⟨g6, c6, rfl, cw6, hb6⟩)
              have hT := Lib.hid hth
              have hoz := orbL_nth (L := L) (v := k) (j := j) (by rw [HL.out]; exact hjl)
              have hst := Lib.hid (setG_take1 (l := orbL L k) (k := j) (by rw [orbL_len, HL.out]; exact hjl))
              have hcs := Lib.hid (fun (u : Nat) (s : Bool) => contains_step (l := orbL L k) (u := u) (j := j) (by rw [orbL_len, HL.out]; exact hjl) (hoz.trans hz) s)
              have hzz := Lib.hid (hoz.trans hz)
              have hjb : (j : Int) < bn := by omega
              have hwk : IntKind.i64.wrap (j : Int) = (j : Int) := by unfold IntKind.wrap IntKind.bits IntKind.signed; simp; omega
              clear e1 e2 hth hri hoz hz
              go_wp2
              have hS0 : Below wr.heap.size wr wr.drew := by have := below_drewn wr 1; rwa [← World.drew_is_drewN] at this
              have hS : wr.drew.cell? ⟨w0.heap.size, 5, none⟩ = some (.slice (some ba) bn bc) ∧ wr.drew.cell? (ba.add j) = some (.slice B1 q1 r1) ∧ wr.drew.cell? ba = some (.slice B0 q1 c0) := ⟨below_cell hS0 c9', below_cell hS0 hca, below_cell hS0 hb0c⟩
              refine wp_region_any (by kernel_rfl) (wpAny_of_held (S := fun w' => w'.cell? ⟨w0.heap.size, 5, none⟩ = some (.slice (some ba) bn bc) ∧ w'.cell? (ba.add j) = some (.slice B1 q1 r1) ∧ w'.cell? ba = some (.slice B0 q1 c0)) _ _ _ _ ?_)
              refine wpAnyH_take (i := 0) (v := ?_) rfl (by kernel_rfl) (by kernel_rfl) (by kernel_rfl) (fun _ _ _ h => h) (Or.inl ⟨by rfl, ?_⟩) (by assumption) ?_
              rotate_left
              · (intro w hSw; (try dsimp only at hSw); go_simp; (try with_reducible rfl))
              simp only [Act.put, List.setIfInBounds_toArray, List.set_cons_zero, List.set_cons_succ]
              refine wpAnyH_take (i := 1) (v := ?_) rfl (by kernel_rfl) (by kernel_rfl) (by kernel_rfl) (fun _ _ _ h => h) (Or.inl ⟨by rfl, ?_⟩) (by assumption) ?_
              rotate_left
              · (intro w hSw; (try dsimp only at hSw); go_simp; (try with_reducible rfl))
              simp only [Act.put, List.setIfInBounds_toArray, List.set_cons_zero, List.set_cons_succ]
              refine wpAnyH_take (i := 2) (v := ?_) rfl (by kernel_rfl) (by kernel_rfl) (by kernel_rfl) (fun _ _ _ h => h) (Or.inl ⟨by rfl, ?_⟩) (by assumption) ?_
              rotate_left
              · (intro w hSw; (try dsimp only at hSw); go_simp; (try with_reducible rfl))
              simp only [Act.put, List.setIfInBounds_toArray, List.set_cons_zero, List.set_cons_succ]
              refine wpAnyH_take (i := 3) (v := ?_) rfl (by kernel_rfl) (by kernel_rfl) (by kernel_rfl) (fun _ _ _ h => h) (Or.inl ⟨by rfl, ?_⟩) (by assumption) ?_
              rotate_left
              · (intro w hSw; (try dsimp only at hSw); go_simp; (try with_reducible rfl))
              simp only [Act.put, List.setIfInBounds_toArray, List.set_cons_zero, List.set_cons_succ]
              refine wpAnyH_take (i := 4) (v := ?_) rfl (by kernel_rfl) (by kernel_rfl) (by kernel_rfl) (fun _ _ _ h => h) (Or.inl ⟨by rfl, ?_⟩) (by assumption) ?_
              rotate_left
              · (intro w hSw; (try dsimp only at hSw); go_simp; (try with_reducible rfl))
              simp only [Act.put, List.setIfInBounds_toArray, List.set_cons_zero, List.set_cons_succ]
              refine wpAnyH_take (i := 5) (v := ?_) rfl (by kernel_rfl) (by kernel_rfl) (by kernel_rfl) (fun _ _ _ h => h) (Or.inl ⟨by rfl, ?_⟩) (by assumption) ?_
              rotate_left
              · (intro w hSw; (try dsimp only at hSw); go_simp; (try with_reducible rfl))
              simp only [Act.put, List.setIfInBounds_toArray, List.set_cons_zero, List.set_cons_succ]
              refine wpAnyH_take (i := 6) (v := ?_) rfl (by kernel_rfl) (by kernel_rfl) (by kernel_rfl) (fun _ _ _ h => h) (Or.inl ⟨by rfl, ?_⟩) (by assumption) ?_
              rotate_left
              · (intro w hSw; (try dsimp only at hSw); go_simp; (try with_reducible rfl))
              simp only [Act.put, List.setIfInBounds_toArray, List.set_cons_zero, List.set_cons_succ]
              refine wpAnyH_take (i := 7) (v := ?_) rfl (by kernel_rfl) (by kernel_rfl) (by kernel_rfl) (fun _ _ _ h => h) (Or.inl ⟨by rfl, ?_⟩) (by assumption) ?_
              rotate_left
              · (intro w hSw; (try dsimp only at hSw); go_simp; (try with_reducible rfl))
              simp only [Act.put, List.setIfInBounds_toArray, List.set_cons_zero, List.set_cons_succ]
              refine wpAnyH_take (i := 8) (v := ?_) rfl (by kernel_rfl) (by kernel_rfl) (by kernel_rfl) (fun _ _ _ h => h) (Or.inl ⟨by rfl, ?_⟩) (by assumption) ?_
              rotate_left
              · (intro w hSw; (try dsimp only at hSw); go_simp; (try with_reducible rfl))
              simp only [Act.put, List.setIfInBounds_toArray, List.set_cons_zero, List.set_cons_succ]
              refine wpAnyH_take (i := 9) (v := ?_) rfl (by kernel_rfl) (by kernel_rfl) (by kernel_rfl) (fun _ _ _ h => h) (Or.inl ⟨by rfl, ?_⟩) (by assumption) ?_
              rotate_left
              · (intro w hSw; (try dsimp only at hSw); go_simp; (try with_reducible rfl))
              simp only [Act.put, List.setIfInBounds_toArray, List.set_cons_zero, List.set_cons_succ]
              refine wpAnyH_take (i := 10) (v := ?_) rfl (by kernel_rfl) (by kernel_rfl) (by kernel_rfl) (fun _ _ _ h => h) (Or.inl ⟨by rfl, ?_⟩) (by assumption) ?_
              rotate_left
              · (intro w hSw; (try dsimp only at hSw); go_simp; (try with_reducible rfl))
              simp only [Act.put, List.setIfInBounds_toArray, List.set_cons_zero, List.set_cons_succ]
              refine wpAnyH_take (i := 11) (v := ?_) rfl (by kernel_rfl) (by kernel_rfl) (by kernel_rfl) (fun _ _ _ h => h) (Or.inl ⟨by rfl, ?_⟩) (by assumption) ?_
              rotate_left
              · (intro w hSw; (try dsimp only at hSw); go_simp; (try with_reducible rfl))
              simp only [Act.put, List.setIfInBounds_toArray, List.set_cons_zero, List.set_cons_succ]
              refine wpAnyH_take (i := 12) (v := ?_) rfl (by kernel_rfl) (by kernel_rfl) (by kernel_rfl) (fun _ _ _ h => h) (Or.inl ⟨by rfl, ?_⟩) (by assumption) ?_
              rotate_left
              · (intro w hSw; (try dsimp only at hSw); go_simp; (try with_reducible rfl))
              simp only [Act.put, List.setIfInBounds_toArray, List.set_cons_zero, List.set_cons_succ]
              refine wpAnyH_take (i := 14) (v := ?_) rfl (by kernel_rfl) (by kernel_rfl) (by kernel_rfl) (fun _ _ _ h => h) (Or.inl ⟨by rfl, ?_⟩) (by assumption) ?_
              rotate_left
              · (intro w hSw; (try dsimp only at hSw); go_simp; (try with_reducible rfl))
              simp only [Act.put, List.setIfInBounds_toArray, List.set_cons_zero, List.set_cons_succ]
              refine wpAnyH_ready (rs := [13]) (by kernel_rfl) (by simp) ?_
              refine AllReadyH.cons rfl (fun K hK => ?_) AllReadyH.nil
              go_simp
              refine (hT.out _ hS0).mono ?_
              rintro e w6 ⟨g6, c6, rfl, cw6, hb6⟩
              dsimp only
              have hX6 : Below wr.heap.size wr w6 := hS0.trans (hb6.mono (Nat.le_refl _))
              refine hK.out _ _ ⟨below_cell hX6 c9', below_cell hX6 hca, below_cell hX6 hb0c⟩ (fun hS1 => ?_)
              clear hK K hS
              refine wpAnyH_take (i := 15) (v := ?_) rfl (by kernel_rfl) (by kernel_rfl) (by kernel_rfl) (fun _ _ _ h => h) (Or.inl ⟨by rfl, ?_⟩) (by assumption) ?_
              rotate_left
              · (intro w hSw; (try dsimp only at hSw); go_simp; (try with_reducible rfl))
              simp only [Act.put, List.setIfInBounds_toArray, List.set_cons_zero, List.set_cons_succ]
              refine wpAnyH_ready (rs := [16]) (by kernel_rfl) (by simp) ?_
              refine AllReadyH.cons rfl (fun K hK => ?_) AllReadyH.nil
              go_simp
              refine hK.out _ _ hS1 (fun hS2 => ?_)
              clear hK K hS1
              refine wpAnyH_take (i := 17) (v := ?_) rfl (by kernel_rfl) (by kernel_rfl) (by kernel_rfl) (fun _ _ _ h => h) (Or.inl ⟨by rfl, ?_⟩) (by assumption) ?_
              rotate_left
              · (intro w hSw; (try dsimp only at hSw); go_simp; (try with_reducible rfl))
              simp only [Act.put, List.setIfInBounds_toArray, List.set_cons_zero, List.set_cons_succ]
              simp only [List.getElem_toArray, List.getElem_cons_succ, List.getElem_cons_zero, List.setIfInBounds_toArray, List.set_cons_zero, List.set_cons_succ]
              refine wpAnyH_done (by kernel_rfl) ?_ _
              have hV6 := hV.below hX6
              have hor6 := hor.below hX6
              have hse6 := hse.below hX6
              have hwi6 := hwi.trans (hX6.mono hwi.size)
              obtain ⟨gs', hgs', csz, fsz⟩ := hse6.cell (bools_at hzm)
              cases hgs'
              have hse7 := hse6.set z (.bool true)
              rw [bools_set, bools_congr (fun u _ => hcs.out u (seenB L k u))] at hse7
              have hg7 : w6.grownBy (w6.setCell ⟨w2.heap.size, z, none⟩ (.bool true)) (blk (some ⟨w2.heap.size, 0, none⟩)) := grown_set
              have hV7 := hV6.kept hg7 (OS.typed (hV6.more hw.size).os hse6 (by decide))
              have hov6 := hor6
              have hz6 : wo.heap.size ≤ w6.heap.size := Nat.le_trans hzw hX6.size
              have hor7 := Lib.hid (hov6.kept hg7 (OS.typed hov6.os hse6 (by decide)) (fun i u hu => by
                have hi : i < (orbT L k).length := by rw [← hov6.len]; exact (List.getElem?_eq_some_iff.1 hu).1
                exact OS.typed (hov6.rows i u _ hu (List.getElem?_eq_getElem hi)).os hse6 (by decide)))
              have hw7 := Below.setCell hwi6 (p := ⟨w2.heap.size, z, none⟩) (Nat.le_refl _) (.bool true)
              obtain ⟨W7, hW7⟩ : ∃ W7, w6.setCell ⟨w2.heap.size, z, none⟩ (.bool true) = W7 := ⟨_, rfl⟩
              have hz7 : wo.heap.size ≤ (w6.setCell ⟨w2.heap.size, z, none⟩ (.bool true)).heap.size := by simpa [World.setCell] using hz6
              rw [hW7] at hse7 hV7 hor7 hw7 hz7
              have HSE := Lib.hid hse7
              have hpt := l00Put_any V q e _ (z : Int) W7 hV7.reads (by omega) ⟨by omega, by omega⟩
              rw [← hzz.out, hst.out, hzz.out] at hpt
              clear hS2 hV hor hse hwi hca hb0c hS0 hX6 hV6 hse6 hov6 hg7 hV7 hse7 cw6 hb6 hwi6 c9' hT
              go_wp2_with fail
              clear hW7 csz fsz
              refine hpt.mono ?_
              rintro e8 w8 ⟨A8, n8, c8, rfl, ho8, hb8⟩
              have hw8 := hw7.trans (hb8.mono hw7.size)
              have ho9 := ho8.more hz7
              have hz8 := Nat.le_trans hz7 hb8.size
              have hor9 := Lib.hid (ORv.below hor7.out hb8)
              have HSE := Lib.hid (HSE.out.below hb8)
              have hn8 : n8 ≤ j + 1 := by
                have h1 := ho8.len
                have h2 := setG_len (c := sgnI) ((orbL L k).take (j + 1))
                rw [List.length_take] at h2
                omega
              clear hpt ho8 hb8 hor7
              go_wp2
              go_roundw
              case rel => exact ⟨j + 1, _, _, _, by omega, by go_num, rfl, hn8, ho9, hor9.out, hz8, HSE.out, hw8⟩
              case measure => simp [intOf]; omega
            · obtain rfl : j = bn := by omega
              have htk : (orbL L k).take j = orbL L k := List.take_of_length_le (by rw [orbL_len, HL.out]; exact Nat.le_refl _)
              rw [htk] at hV hse
              have HSE := Lib.hid (show OS wr w2.heap.size 4 1 (some ⟨w2.heap.size, 0, none⟩) m0 m0 (bools m0 (seenB L (k + 1))) by rw [bools_congr (f := seenB L (k + 1)) (g := fun u => seenB L k u || (orbL L k).contains (u : Int)) fun u _ => by rw [seenB_step, HLD.out, Bool.true_and]]; exact hse)
              have hap := HAP.out (V, q, e) (fun b hb => (hV.os.lt hb).1)
              have hr7 := hV.more hw.size
              clear hse hV
              go_wp2_with (at_builtin; refine wpList_app1 _ rfl _ _ 45 rfl 22 (.slice none 0 0) 24 Tryz.underlying45 ints_info rfl (by omega) w2.heap.size A' m' c' (vs0.map slv) rfl hor.os (.slice V q e) rfl rfl (by omega) hwi.size ?_; intro A8 c8 w8 ho8 hg8 hn8)
              have hw8 := below_own hwi hg8 hwi.size (fun b hb => (hor.os.lt hb).1)
              have hi8 := hor.push (v := (V, q, e)) hr7 hap hg8 ho8
              have hs8 := HSE.out.kept hg8 (OS.typed HSE.out hor.os (by decide))
              clear hor hr7 hap ho8 hg8 hn8 hwi HSE
              go_roundw
              case rel => exact ⟨k + 1, A8, m' + 1, c8, by omega, by go_num, rfl, by rw [HT.out]; exact hi8, hs8, hw8⟩
              case measure => simp [intOf]; omega
      · obtain rfl : k = m0 := by omega
        have hwf := hw2.trans (hw.mono hw2.size)
        have hrd := ho.reads
        clear ho hse hw
        go_wp2
        go_ret2
        exact ⟨_, _, _, by rw [HC.out]; rfl, by rw [HR.out]; exact hrd, hwf⟩
  · have HR := Lib.hid (show orbR cs es b = [] by rw [orbR, if_neg h0])
    clear h0
    go_enter Tryz.func33, Tryz.ntmps33
    go_wp2_with fail
    refine hx.mono ?_
    rintro e w2 ⟨hb2, v, rfl, -⟩
    go_wp2
    go_ret2
    exact ⟨_, _, _, rfl, by rw [HR.out]; exact RS.nil_ _ _ _, hb1.trans (hb2.mono hb1.size)⟩
theorem orbR_len (cs : List Int) (es : List Ed) (b : Int) : (orbR cs es b).length ≤ 1048576 ∧ cells (orbR cs es b) ≤ 1099511627776 := by
  by_cases h : codeP cs es b = 0
  · rw [orbR, if_pos h]
    obtain ⟨h1, h2, h3⟩ := codeP_ok h
    have hl := orbT_len (autL (runP cs es b.toNat).best) cs.length
    have hb := runP_len cs es b.toNat
    have hc := h2.clen
    have hr : ∀ r ∈ orbT (autL (runP cs es b.toNat).best) cs.length, r.length ≤ 20001 := fun r hr => by
      have := orbT_row hr
      rw [autL_len] at this
      omega
    have := cells_bound hr
    omega
  · rw [orbR, if_neg h]; simp [cells]
theorem law_VertexOrbits (A : Option Addr) (n c : Nat) (F : Option Addr) (m d : Nat) (cs : List Int) (es : List Ed) (b : Int) (w : World) (ha : RG w A n F m cs es) (hn : n ≤ 9223372036854775807) (hm : m ≤ 9223372036854775807) (_ : I64 b) :
    Calls Tryz.prog 9 #[.agg #[.slice A n c, .slice F m d], .int .i64 b] w fun e w' => e = .returned (.bool true) ∧ Below w.heap.size w w' := by
  by_cases hs : (n : Int) + m ≤ 1048576
  · exact law_VertexOrbits_ok A n c F m d cs es b w ha hs (orbR cs es b) (codeP cs es b) (orbR_len cs es b)
      (fun A n c F m d w h1 h2 h3 => spec_VertexOrbits A n c F m d cs es b w h1 (by omega) (by omega))
      (fun A n c F m d w h1 h2 h3 => impl_VertexOrbits A n c F m d cs es b w h1 (by omega) (by omega))
  · exact law_VertexOrbits_big A n c F m d cs es b w ha hn hm hs
end Go.Proofs.YtjgihhnplckjoaaGreat
