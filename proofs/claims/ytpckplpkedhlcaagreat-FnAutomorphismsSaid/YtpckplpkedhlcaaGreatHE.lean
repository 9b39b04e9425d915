/- Orbits of a group of permutations, plain. No program in sight. -/
import Derived.Test.YtpckplpkedhlcaaGreatGG
import Derived.Test.YtpckplpkedhlcaaGreatHD
import Derived.Test.YtpckplpkedhlcaaGreatGK
set_option linter.unusedVariables false
set_option linter.unusedSimpArgs false
namespace Go.Proofs.YtpckplpkedhlcaaGreat

/-- where some permutations lead a number -/
def orbL (L : List (List Int)) (v : Nat) : List Int := L.map fun p => nth p v
theorem orbL_len (L : List (List Int)) (v : Nat) : (orbL L v).length = L.length := by simp [orbL]
theorem orbL_nth {L : List (List Int)} {v j : Nat} (h : j < L.length) : nth (orbL L v) j = nth (row L j) v := by
  rw [nth_get (by rw [orbL_len]; exact h), row_get h]
  simp [orbL]
theorem orbL_step {L : List (List Int)} {v j : Nat} (h : j < L.length) : (orbL L v).take j ++ [nth (row L j) v] = (orbL L v).take (j + 1) := by
  rw [List.take_succ_eq_append_getElem (by rw [orbL_len]; exact h), ← nth_get, orbL_nth h]
structure Grp (n : Nat) (L : List (List Int)) : Prop where
  bd : ∀ p ∈ L, ∀ v, v < n → 0 ≤ nth p v ∧ nth p v < (n : Int)
  refl : ∀ v : Nat, v < n → (v : Int) ∈ orbL L v
  symm : ∀ u v : Nat, u < n → v < n → (v : Int) ∈ orbL L u → (u : Int) ∈ orbL L v
  trans : ∀ t u v : Nat, t < n → u < n → v < n → (u : Int) ∈ orbL L t → (v : Int) ∈ orbL L u → (v : Int) ∈ orbL L t
section
variable {n : Nat} {L : List (List Int)}
theorem Grp.mem (h : Grp n L) {v : Nat} (hv : v < n) {x : Int} (hx : x ∈ orbL L v) : ∃ u : Nat, x = u ∧ u < n := by
  obtain ⟨p, hp, rfl⟩ := List.mem_map.1 hx
  have := h.bd p hp v hv
  exact ⟨(nth p v).toNat, by omega, by omega⟩
/-- a number is the least one of its orbit -/
def leadB (L : List (List Int)) (v : Nat) : Bool := nth (srt (orbL L v)) 0 == (v : Int)
theorem srt_least {l : List Int} (hl : l ≠ []) : nth (srt l) 0 ∈ l ∧ ∀ x ∈ l, nth (srt l) 0 ≤ x := by
  have hlen : 0 < (srt l).length := by rw [srt_len]; exact List.length_pos_iff.2 hl
  refine ⟨(srt_mem l _).1 (by rw [nth_get hlen]; exact List.getElem_mem hlen), fun x hx => ?_⟩
  have hx' := (srt_mem l x).2 hx
  obtain ⟨k, hk, rfl⟩ := List.mem_iff_getElem.1 hx'
  rw [nth_get hlen]
  rcases Nat.eq_zero_or_pos k with h | h
  · subst h; exact Int.le_refl _
  · exact List.pairwise_iff_getElem.1 (srt_le l) 0 k hlen hk h
theorem Grp.lead_iff (h : Grp n L) {v : Nat} (hv : v < n) : leadB L v = true ↔ ∀ x ∈ orbL L v, (v : Int) ≤ x := by
  have hne : orbL L v ≠ [] := List.ne_nil_of_mem (h.refl v hv)
  obtain ⟨h1, h2⟩ := srt_least hne
  unfold leadB
  rw [beq_iff_eq]
  constructor
  · intro e x hx
    rw [← e]; exact h2 x hx
  · intro k
    have h3 := k _ h1
    have h4 := h2 _ (h.refl v hv)
    omega
/-- .. in the orbit of a least one among the first k -/
def seenB (L : List (List Int)) (k u : Nat) : Bool := (List.range k).any fun t => leadB L t && (orbL L t).contains (u : Int)
theorem seenB_zero (L : List (List Int)) (u : Nat) : seenB L 0 u = false := rfl
theorem seenB_step (L : List (List Int)) (k u : Nat) : seenB L (k + 1) u = (seenB L k u || (leadB L k && (orbL L k).contains (u : Int))) := by
  unfold seenB
  rw [List.range_succ, List.any_append]
  simp
theorem seenB_iff (L : List (List Int)) (k u : Nat) : seenB L k u = true ↔ ∃ t, t < k ∧ leadB L t = true ∧ (u : Int) ∈ orbL L t := by
  unfold seenB
  rw [List.any_eq_true]
  constructor
  · rintro ⟨t, ht, hq⟩
    rw [Bool.and_eq_true] at hq
    exact ⟨t, by simpa using ht, hq.1, by simpa using hq.2⟩
  · rintro ⟨t, ht, h1, h2⟩
    exact ⟨t, by simpa using ht, by rw [Bool.and_eq_true]; exact ⟨h1, by simpa using h2⟩⟩
theorem Grp.seen (h : Grp n L) {v : Nat} (hv : v < n) : seenB L v v = !leadB L v := by
  cases hl : leadB L v with
  | true =>
    cases hs : seenB L v v with
    | false => rfl
    | true =>
      obtain ⟨t, ht, _, h2⟩ := (seenB_iff L v v).1 hs
      have h3 := h.symm t v (by omega) hv h2
      have := (h.lead_iff hv).1 hl _ h3
      omega
  | false =>
    have hne : orbL L v ≠ [] := List.ne_nil_of_mem (h.refl v hv)
    obtain ⟨h1, h2⟩ := srt_least hne
    obtain ⟨m, hm, hmn⟩ := h.mem hv h1
    have hmv : m < v := by
      have h3 := h2 _ (h.refl v hv)
      have h4 : nth (srt (orbL L v)) 0 ≠ v := fun e => by rw [leadB, e] at hl; simp at hl
      omega
    rw [hm] at h1
    refine (seenB_iff L v v).2 ⟨m, hmv, (h.lead_iff hmn).2 fun x hx => ?_, h.symm v m hv hmn h1⟩
    obtain ⟨u, rfl, hu⟩ := h.mem hmn hx
    have h5 := h.trans v m u hv hmn hu h1 hx
    have := h2 _ h5
    omega
/-- the orbits of the least ones among the first k -/
def orbT (L : List (List Int)) (k : Nat) : List (List Int) := ((List.range k).filter (leadB L)).map fun v => setG sgnI (orbL L v)
theorem orbT_zero (L : List (List Int)) : orbT L 0 = [] := rfl
theorem orbT_yes {L : List (List Int)} {k : Nat} (h : leadB L k = true) : orbT L (k + 1) = orbT L k ++ [setG sgnI (orbL L k)] := by
  unfold orbT
  rw [List.range_succ, List.filter_append, List.map_append]
  simp [h]
theorem orbT_no {L : List (List Int)} {k : Nat} (h : leadB L k = false) : orbT L (k + 1) = orbT L k := by
  unfold orbT
  rw [List.range_succ, List.filter_append, List.map_append]
  simp [h]
theorem orbT_len (L : List (List Int)) (k : Nat) : (orbT L k).length ≤ k := by
  unfold orbT
  rw [List.length_map]
  exact Nat.le_trans (List.length_filter_le _ _) (by simp)
theorem orbT_row {L : List (List Int)} {k : Nat} {r : List Int} (h : r ∈ orbT L k) : r.length ≤ L.length := by
  unfold orbT at h
  obtain ⟨v, _, rfl⟩ := List.mem_map.1 h
  have := setG_len (c := sgnI) (orbL L v)
  rw [orbL_len] at this
  exact this
theorem comp_srtO (l : List Int) : comp (srt l) = setG sgnI l := setG_comp sgnI_ord (srt_sorted l) fun x => srt_mem l x
theorem setG_take1 {l : List Int} {k : Nat} (h : k < l.length) : putG sgnI (setG sgnI (l.take k)) (nth l k) = setG sgnI (l.take (k + 1)) := by
  rw [List.take_succ_eq_append_getElem h, setG_snoc, nth_get h]
end
theorem aut_grp {cs : List Int} {es : List Ed} {b : Nat} (he : EdgesOk cs.length es) (h : (runP cs es b).spent = false) : Grp cs.length (autsP (runP cs es b)) := by
  have hm := autsP_mem he h
  have hx : ∀ (v : Nat) (x : Int), x ∈ orbL (autsP (runP cs es b)) v ↔ ∃ s, Aut cs es s ∧ nth s v = x := fun v x => by
    unfold orbL
    rw [List.mem_map]
    constructor
    · rintro ⟨p, hp, e⟩; exact ⟨p, (hm p).1 hp, e⟩
    · rintro ⟨s, hs, e⟩; exact ⟨s, (hm s).2 hs, e⟩
  refine ⟨fun p hp v hv => ?_, fun v hv => ?_, fun u v hu hv h1 => ?_, fun t u v ht hu hv h1 h2 => ?_⟩
  · have ha := (hm p).1 hp
    have := ha.perm.bd v (by rw [ha.len]; exact hv)
    rw [ha.len] at this
    exact this
  · exact (hx v v).2 ⟨_, Aut.id cs es, iotaP_nth hv⟩
  · obtain ⟨s, hs, e⟩ := (hx u v).1 h1
    refine (hx v u).2 ⟨_, hs.inv, ?_⟩
    have := invP_nth hs.perm (v := u) (by rw [hs.len]; exact hu)
    rw [e] at this
    simpa using this
  · obtain ⟨s, hs, e⟩ := (hx t u).1 h1
    obtain ⟨s', hs', e'⟩ := (hx u v).1 h2
    refine (hx t v).2 ⟨_, hs.comp hs', ?_⟩
    rw [thenP_nth (by rw [hs.len]; exact ht), e]
    simpa using e'
end Go.Proofs.YtpckplpkedhlcaaGreat
/- VertexOrbits, the program's side. No condition beyond those stated. -/
namespace Go.Proofs.YtpckplpkedhlcaaGreat
open Go.RowKit

noncomputable def orbR (cs : List Int) (es : List Ed) (b : Int) : List (List Int) := if codeP cs es b = 0 then orbT (autL (runP cs es b.toNat).best) cs.length else []
theorem autL_row_len {n : Nat} {l : List (List Int)} (h : PermsOf n l) {k : Nat} (hk : k < l.length) : (row (autL l) k).length = n := by
  rw [autL_at hk, thenP_len]
  exact (h k hk).1
set_option maxRecDepth 100000 in
set_option maxHeartbeats 4000000 in
theorem impl_VertexOrbits (A : Option Addr) (n c : Nat) (F : Option Addr) (m d : Nat) (cs : List Int) (es : List Ed) (b : Int) (w : World) (hG : RG w A n F m cs es) (hn : n ≤ 9223372036854775807) (hm : m ≤ 9223372036854775807) :
    Calls Tryz.prog 11 #[.agg #[.slice A n c, .slice F m d], .int .i64 b] w (RetRC w 24 2 (orbR cs es b) (codeP cs es b)) := by
  have hb1 := below_alloc w (.cells #[.slice A n c, .slice F m d] 27)
  have X := Blk.new w 27 #[.slice A n c, .slice F m d]
  have hx := explored_any' _ A n c F m d cs es b (hG.keep hb1) hn hm
  rcases codeP_cases cs es b with h0 | ⟨h0, h1⟩
  · have HC := Lib.hid h0
    obtain ⟨s1, s2, s3⟩ := codeP_ok h0
    have hbl := runP_len cs es b.toNat
    have hc64 := s2.clen
    have HP := Lib.hid (run_perms cs es b.toNat)
    have HB := Lib.hid (runP_best s1)
    have HG := Lib.hid (show Grp cs.length (autL (runP cs es b.toNat).best) from aut_grp (graph_edges s2) s1)
    have HR := Lib.hid (show orbR cs es b = orbT (autL (runP cs es b.toNat).best) cs.length by rw [orbR, if_pos h0])
    have hcl := hG.ri.len
    clear h0 s1 s2
    go_enter Tryz.func11, Tryz.ntmps11
    go_wp2_with fail
    refine hx.mono ?_
    rintro e w2 ⟨hb2, v, rfl, hv⟩
    obtain ⟨w0, rfl, hb0, -, -, -, N, cN, BA, bn, bc, FA, fn, fk, FF, fm, fd, hX⟩ := hv HC.out
    rw [HC.out]
    obtain ⟨vs, hbv, -⟩ := hX.sb.best
    have hbn := hbv.slen
    have c9 := hX.cells.2.2.2.2.2
    have hbn0 : 0 < bn := by rw [← hbn]; exact List.length_pos_iff.2 HB.out
    have hau := automorphisms_any w2 w0.heap.size BA bn bc _ cs.length c9 hbv.reads hbn0 (by omega) (by omega) HP.out
    have HL := Lib.hid (show (autL (runP cs es b.toNat).best).length = bn by rw [autL_len, hbn])
    have HRL := Lib.hid (fun (k : Nat) (hk : k < bn) => autL_row_len HP.out (k := k) (by rw [hbn]; exact hk))
    have hbn2 : bn ≤ 20001 := by omega
    rw [hcl] at HRL HG HR hc64
    generalize autL (runP cs es b.toNat).best = L at *
    generalize runP cs es b.toNat = s at *
    have X2 := X.after hb2
    clear hbl hv hX hbv hbn hx HP HB c9
    obtain ⟨x0, x1⟩ := X2.cells2
    go_wp2_with fail
    refine hau.mono ?_
    rintro e w3 ⟨A3, n3, c3, rfl, ho3, hb3⟩
    obtain rfl : n3 = bn := by rw [← ho3.len, HL.out]
    have hr3 := ho3.reads
    have y0 := below_cell hb3 x0
    have hw2 := hb1.trans (hb2.mono hb1.size)
    have hw3 := hw2.trans (hb3.mono hw2.size)
    clear hau ho3 x0 x1 X2
    go_wp2
    clear y0
    go_loopw [9, 10, 11, 13, 28] (fun v _ _ _ i wr => ∃ (k : Nat) (A' : Option Addr) (m' c' : Nat), k ≤ n ∧ i = .int .i64 k ∧ v = .slice A' m' c' ∧ OR wr w3.heap.size 24 2 A' m' c' (orbT L k) ∧ Below w3.heap.size w3 wr) (fun _ _ _ _ i _ => n - (intOf i).toNat)
    case atStart => exact ⟨0, _, _, _, Nat.zero_le _, rfl, rfl, OR.nil_ _ _ (by decide), Below.refl _ _⟩
    case round =>
      obtain ⟨k, A', m', c', hk, rfl, rfl, ho, hw⟩ := hrel
      by_cases hlt : k < n
      · have HO := Lib.hid ho
        have hlm := ho.len
        have hom := orbT_len L k
        have hm64 : m' ≤ 64 := by omega
        have hsz := hw.size
        clear ho hlm hom
        go_wp2
        obtain ⟨wo, rfl⟩ : ∃ wo : World, wo = wr := ⟨_, rfl⟩
        go_loopw [11, 13, 33] (fun v _ i wi => ∃ (j : Nat) (V : Option Addr) (e : Nat), j ≤ n3 ∧ i = .int .i64 j ∧ v = .slice V j e ∧ OI wi wo.heap.size 2 V j e ((orbL L k).take j) ∧ Below wo.heap.size wo wi) (fun _ _ i _ => n3 - (intOf i).toNat)
        case atStart => exact ⟨0, _, _, Nat.zero_le _, rfl, rfl, OI.nil_ _ _ _, Below.refl _ _⟩
        case round =>
          obtain ⟨j, V, e, hj, rfl, rfl, hV, hbw⟩ := hrel
          have hw33 := hw.trans (hbw.mono hw.size)
          by_cases hjl : j < n3
          · obtain ⟨a, B1, q1, r1, rfl, hca, hq1, hr1, hri⟩ := (hr3.keep hw33).get hjl
            obtain rfl : q1 = n := by have := hri.len; rw [HRL.out j hjl] at this; omega
            obtain ⟨a2, rfl, hc2, hi2⟩ := hri.get (k := k) hlt
            have hst := Lib.hid (orbL_step (L := L) (v := k) (j := j) (by rw [HL.out]; exact hjl))
            generalize nth (row L j) k = z at *
            clear hri
            go_wp2_with (at_builtin; refine app_int _ rfl _ _ rfl wo.heap.size V j e _ rfl hV z _ rfl (by simp) hi2 (by omega) hbw.size ?_; intro V2 e2 w5 ho5 hg5 hn5)
            have hb5 := below_own hbw hg5 hbw.size (fun b hb => (hV.os.lt hb).1)
            rw [hst.out] at ho5
            clear hV hbw hg5 hn5 hca hc2 hw33
            go_roundw
            case rel => exact ⟨j + 1, _, _, by omega, by go_num, rfl, ho5, hb5⟩
            case measure => simp [intOf]; omega
          · obtain rfl : j = n3 := by omega
            rw [List.take_of_length_le (by rw [orbL_len, HL.out]; exact Nat.le_refl _)] at hV
            have hso := sort_any wo.heap.size 2 V j e _ wr hV (by omega)
            go_wp2_with fail
            refine hso.mono ?_
            rintro e1 w5 ⟨rfl, ho5, hg5⟩
            have hb5 := below_own hbw hg5 hbw.size (fun b hb => (hV.os.lt hb).1)
            obtain ⟨g5, hg, cz, -, -⟩ := ho5.cell hbn0
            obtain rfl : V = some ⟨g5, 0, none⟩ := hg
            have hcp := compactI_any wo.heap.size _ j e _ w5 ho5 (by omega)
            rw [comp_srtO] at hcp
            cases hl : leadB L k with
            | true =>
              have HT := Lib.hid (orbT_yes hl)
              have hz0 : (nth (srt (orbL L k)) 0 == (k : Int)) = true := hl
              generalize nth (srt (orbL L k)) 0 = z at *
              clear hl hV hg5 hso hbw hw33 ho5
              go_wp2_with fail
              refine hcp.mono ?_
              rintro e2 w6 ⟨m6, rfl, ho6, hg6⟩
              have hb6 := below_own hb5 hg6 hb5.size (fun b hb => (ho6.os.lt hb).1)
              obtain ⟨vs, hov⟩ := HO.out
              have hap := hov.apart_new (v := (some ⟨g5, 0, none⟩, m6, e)) (fun b hb => (ho6.os.lt hb).1)
              have ho7 := hov.below hb6
              have hr7 := ho6.more hw.size
              have hw6 := hw.trans (hb6.mono hw.size)
              clear hcp hb5 hg6 ho6 hb6 hov
              go_wp2_with (at_builtin; refine wpList_app1 _ rfl _ _ 30 rfl 24 (.slice none 0 0) 24 Tryz.underlying30 ints_info rfl (by omega) w3.heap.size A' m' c' (vs.map slv) rfl ho7.os (.slice (some ⟨g5, 0, none⟩) m6 e) rfl rfl (by omega) hw6.size ?_; intro A8 c8 w8 ho8 hg8 hn8)
              have hw8 := below_own hw6 hg8 hw6.size (fun b hb => (ho7.os.lt hb).1)
              have hi8 := ho7.push (v := (some ⟨g5, 0, none⟩, m6, e)) hr7 hap hg8 ho8
              clear ho7 hr7 hap ho8 hg8 hn8 hw6
              go_roundw
              case rel => exact ⟨k + 1, A8, m' + 1, c8, by omega, by go_num, rfl, by rw [HT.out]; exact hi8, hw8⟩
              case measure => simp [intOf]; omega
            | false =>
              have HT := Lib.hid (orbT_no hl)
              have hz0 : (nth (srt (orbL L k)) 0 == (k : Int)) = false := hl
              generalize nth (srt (orbL L k)) 0 = z at *
              have HO2 := Lib.hid (HO.out.below hb5)
              have hw5 := hw.trans (hb5.mono hw.size)
              clear hl hV hg5 hso hbw hw33 ho5 hcp
              go_wp2
              go_roundw
              case rel => exact ⟨k + 1, A', m', c', by omega, by go_num, rfl, by rw [HT.out]; exact HO2.out, hw5⟩
              case measure => simp [intOf]; omega
      · obtain rfl : k = n := by omega
        have ho2 := ho.more (Nat.le_trans hw2.size hb3.size)
        have hwf := hw3.trans (hw.mono hw3.size)
        clear ho hw
        go_wp2
        go_ret2
        exact ⟨_, _, _, by rw [HC.out]; rfl, by rw [HR.out]; exact ho2, hwf⟩
  · have HR := Lib.hid (show orbR cs es b = [] by rw [orbR, if_neg h0])
    clear h0
    go_enter Tryz.func11, Tryz.ntmps11
    go_wp2_with fail
    refine hx.mono ?_
    rintro e w2 ⟨hb2, v, rfl, -⟩
    go_wp2
    go_ret2
    exact ⟨_, _, _, rfl, by rw [HR.out]; exact OR.nil_ _ _ (by decide), hb1.trans (hb2.mono hb1.size)⟩
end Go.Proofs.YtpckplpkedhlcaaGreat
