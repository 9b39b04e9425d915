/- Groups, the program's closure. No condition beyond those stated. -/
import Derived.Test.YtemdjochphehjaaGreatQIE
import Derived.Test.YtemdjochphehjaaGreatQHA
import Derived.Test.YtemdjochphehjaaGreatQHF
import Derived.Deep.QuietTactic
set_option linter.unusedVariables false
set_option linter.unusedSimpArgs false
namespace Go.Proofs.YtemdjochphehjaaGreat
open Go.RowKit Go.Maps

theorem ORv.lit1 {w : World} {B : Nat} {v : Sl} {z : List Int} (ho : OI w B 2 v.1 v.2.1 v.2.2 z) (hB : B ≤ w.heap.size) :
    ORv (w.alloc (.cells #[.slice v.1 v.2.1 v.2.2] 22)) B 22 2 (some ⟨w.heap.size, 0, none⟩) 1 1 [v] [z] := by
  refine ⟨OS.lit w B 22 1 1 #[.slice v.1 v.2.1 v.2.2] hB rfl (by omega), rfl, fun j u y hu hy => ?_, fun i j u x hij hu hx => ?_, by decide⟩
  · cases j with
    | zero =>
      simp at hu hy
      subst hu; subst hy
      exact ho.alloc _
    | succ j => simp at hu
  · cases i with
    | zero =>
      cases j with
      | zero => exact absurd rfl hij
      | succ j => simp at hx
    | succ i => simp at hu
/-- a row of cells is no map -/
theorem SeenM.far {w : World} {b m : Nat} {S : List ByteArray} (h : SeenM w b m S) {B : Nat} {e : TypeId} {size : Nat} {A : Option Addr} {n c : Nat} {xs : List Value} (ho : OS w B e size A n c xs) : blk A ≠ some b := by
  obtain ⟨D, ⟨es, clock, hb, _⟩, _⟩ := h
  rcases ho.cases with ⟨rfl, _⟩ | ⟨g, cur, rfl, _, hg, _⟩
  · simp [blk]
  · intro e
    have : g = b := by simpa [blk] using e
    subst this
    rw [hb] at hg
    cases hg
/-- what a closure returns -/
def RetClo (w : World) (n : Nat) (gs : List (List Int)) (e : Ending) (w' : World) : Prop :=
  ∃ (A : Option Addr) (m c : Nat) (ok : Bool) (L : List (List Int)), e = .returned (.tuple #[.slice A m c, .bool ok]) ∧ Below w.heap.size w w' ∧ OR w' w.heap.size 22 2 A m c L ∧
    ((ok = true ∧ L.length ≤ 720 ∧ GenL n gs L) ∨ (ok = false ∧ L = [] ∧ Over n gs 720))
/-- the keys that were seen are those of the elements -/
def KeysAre (n : Nat) (S : List ByteArray) (E : List (List Int)) : Prop := ∀ p, PermN n p → (strOfNums p ∈ S ↔ p ∈ E)
theorem KeysAre.start {n : Nat} (hn : n ≤ 256) : KeysAre n [strOfNums (iotaP n)] [iotaP n] := fun p hp => by
  rw [List.mem_singleton, List.mem_singleton]
  exact ⟨fun h => strOfNums_inj (hp.small hn) ((PermN.one n).small hn) h, fun h => by rw [h]⟩
theorem KeysAre.more {n : Nat} (hn : n ≤ 256) {S : List ByteArray} {E : List (List Int)} (h : KeysAre n S E) {q : List Int} (hq : PermN n q) : KeysAre n (strOfNums q :: S) (E ++ [q]) := fun p hp => by
  rw [List.mem_cons, List.mem_append, List.mem_singleton, h p hp]
  constructor
  · rintro (h1 | h1)
    · exact .inr (strOfNums_inj (hp.small hn) (hq.small hn) h1)
    · exact .inl h1
  · rintro (h1 | h1)
    · exact .inr h1
    · exact .inl (by rw [h1])
/-- the closure's state -/
structure CloS (w wr : World) (b n : Nat) (gs : List (List Int)) (A : Option Addr) (m c : Nat) (vs : List Sl) (E : List (List Int)) (S : List ByteArray) (k j : Nat) : Prop where
  bl : Below w.heap.size w wr
  o : ORv wr w.heap.size 22 2 A m c vs E
  s : SeenM wr b m S
  keys : KeysAre n S E
  g : Gath n gs E k j
theorem CloS.below {w wr w' : World} {b n : Nat} {gs : List (List Int)} {A : Option Addr} {m c : Nat} {vs : List Sl} {E : List (List Int)} {S : List ByteArray} {k j : Nat} (h : CloS w wr b n gs A m c vs E S k j) (hb : Below wr.heap.size wr w') : CloS w w' b n gs A m c vs E S k j :=
  ⟨h.bl.trans (hb.mono h.bl.size), h.o.below hb, h.s.below hb, h.keys, h.g⟩
theorem ORv.offmap {w w' : World} {b k B : Nat} {A : Option Addr} {m c : Nat} {vs : List Sl} {E : List (List Int)} {S : List ByteArray} (h : ORv w B 22 2 A m c vs E) (hs : SeenM w b k S) (hg : w.grownBy w' (some b)) : ORv w' B 22 2 A m c vs E :=
  h.kept hg (.inr (hs.far h.os)) (fun j u hu => .inr (hs.far (h.rows j u _ hu (List.getElem?_eq_getElem (by rw [← h.len]; exact (List.getElem?_eq_some_iff.1 hu).1))).os))
theorem CloS.new {w w2 w3 w4 : World} {b n : Nat} {gs : List (List Int)} {A A' : Option Addr} {m c c' : Nat} {vs : List Sl} {v : Sl} {E : List (List Int)} {S : List ByteArray} {k j : Nat} (h : CloS w w2 b n gs A m c vs E S k j) (hn : n ≤ 256) (hgs : AllN n gs) (hk : k < E.length) (hj : j < gs.length) (hm : thenP (row E k) (row gs j) ∉ E) (hb : w.heap.size ≤ b)
    (s3 : SeenM w3 b (m + 1) (strOfNums (thenP (row E k) (row gs j)) :: S)) (g3 : w2.grownBy w3 (some b)) (o4 : ORv w4 w.heap.size 22 2 A' (m + 1) c' (vs ++ [v]) (E ++ [thenP (row E k) (row gs j)])) (g4 : w3.grownBy w4 (blk A)) :
    CloS w w4 b n gs A' (m + 1) c' (vs ++ [v]) (E ++ [thenP (row E k) (row gs j)]) (strOfNums (thenP (row E k) (row gs j)) :: S) k (j + 1) := by
  have o3 := h.o.offmap h.s g3
  have b3 : Below w.heap.size w w3 := h.bl.grown g3 h.bl.size (fun q hq => by injection hq with hq; omega)
  have hpe : PermN n (row E k) := by rw [row_get hk]; exact (h.g.gen _ (List.getElem_mem hk)).perm hgs
  have hpg : PermN n (row gs j) := by rw [row_get hj]; exact hgs _ (List.getElem_mem hj)
  exact ⟨b3.grown g4 b3.size (fun q hq => (o3.os.lt hq).1), o4, s3.kept g4 (fun e => s3.far o3.os e.symm), h.keys.more hn (hpe.mul hpg), h.g.new hk hj hm⟩
set_option maxRecDepth 100000 in
set_option maxHeartbeats 4000000 in
theorem closure_any (n : Nat) (GA : Option Addr) (gn gc : Nat) (gs : List (List Int)) (w : World) (hg : RR w GA gn gs) (hp : AllN n gs) (hn : n ≤ 32) (hgn : gn ≤ 1048576) :
    Calls Tryz.prog 172 #[.int .i64 n, .slice GA gn gc] w (RetClo w n gs) := by
  have hgl := Lib.hid hg.len
  have hid1 := identity_any n w (by omega)
  have hmm := @run_makeMap Tryz.prog
  have HP := Lib.hid hp
  clear hp
  go_enter Tryz.func172, Tryz.ntmps172
  go_wp2_with fail
  refine hid1.mono ?_
  rintro e w1 ⟨A1, n1, c1, rfl, ho1, hb1⟩
  have hn1 : n1 = n := by have := ho1.len; rw [iotaP_len] at this; exact this.symm
  subst hn1
  have o2 := ORv.lit1 (v := (A1, n1, c1)) ho1 hb1.size
  obtain ⟨W2, hW2⟩ : ∃ W2, w1.alloc (.cells #[.slice A1 n1 c1] 22) = W2 := ⟨_, rfl⟩
  have b12 : Below w1.heap.size w1 W2 := hW2 ▸ below_alloc w1 _
  rw [show w1.alloc (.cells #[.slice (A1, n1, c1).1 (A1, n1, c1).2.1 (A1, n1, c1).2.2] 22) = W2 from hW2] at o2
  obtain ⟨W3, hW3⟩ : ∃ W3, W2.alloc (.map #[] 0) = W3 := ⟨_, rfl⟩
  have b23 : Below W2.heap.size W2 W3 := hW3 ▸ below_alloc W2 _
  have s3 : SeenM W3 W2.heap.size 0 [] := hW3 ▸ SeenM.made W2
  have o3 := o2.below b23
  obtain ⟨g3, v3, hg3, hv3, c3, -, r3⟩ := o3.get (Nat.lt_succ_self 0)
  cases hg3
  have hv3' : v3 = (A1, n1, c1) := by simpa using hv3.symm
  subst hv3'
  have hk1 := keyOf_any A1 n1 c1 (iotaP n1) W3 (by simpa [row] using r3.reads) ((PermN.one n1).small (by omega)) (by omega)
  clear hid1
  go_wp2_with fail
  refine hk1.mono ?_
  rintro e w4 ⟨rfl, hb4⟩
  have s4 := s3.below hb4
  have o4 := o3.below hb4
  have hss : (strOfNums (iotaP n1)).size ≤ maxLen := by rw [strOfNums_size, iotaP_len]; unfold maxLen; omega
  have hw4 : Below w.heap.size w w4 := ((hb1.trans (b12.mono hb1.size)).trans (b23.mono (Nat.le_trans hb1.size b12.size))).trans (hb4.mono (Nat.le_trans hb1.size (Nat.le_trans b12.size b23.size)))
  have hwb : w.heap.size ≤ W2.heap.size := Nat.le_trans hb1.size b12.size
  clear hk1 r3 c3 o3 s3 hmm
  go_wp2_with (refine wpList_see _ rfl _ _ _ (.inr rfl) W2.heap.size 0 [] rfl s4 (by decide) _ hss rfl rfl ?_; intro w5 s5 g5)
  have hfar4 := s4.far o4.os
  have o5 : ORv w5 w.heap.size 22 2 (some ⟨w1.heap.size, 0, none⟩) 1 1 [(A1, n1, c1)] [iotaP n1] := o4.kept g5 (.inr hfar4) (fun j u hu => .inr (s4.far (o4.rows j u _ hu (List.getElem?_eq_getElem (by rw [← o4.len]; exact (List.getElem?_eq_some_iff.1 hu).1))).os))
  have hst : CloS w w5 W2.heap.size n1 gs (some ⟨w1.heap.size, 0, none⟩) 1 1 [(A1, n1, c1)] [iotaP n1] [strOfNums (iotaP n1)] 0 0 :=
    ⟨hw4.grown g5 hw4.size (fun k hk => by injection hk with hk; omega), o5, s5, KeysAre.start (by omega), Gath.start n1 gs⟩
  have hgb := fun (w' : World) (hb : Below w.heap.size w w') => hg.keep hb
  have HG := Lib.hid hgb
  obtain ⟨N, hN⟩ : ∃ N, n1 = N := ⟨_, rfl⟩
  have HNN := Lib.hid hN.symm
  rw [hN] at hst HP hn
  obtain ⟨b, hbb⟩ : ∃ b, W2.heap.size = b := ⟨_, rfl⟩
  rw [hbb] at hst hwb
  clear hg hgb hb1 ho1 o2 hW2 b12 hW3 b23 hv3 hb4 s4 o4 hss hw4 s5 g5 hfar4 o5
  rw [hbb, hN]
  clear hbb hN
  go_loopw [6, 8] (fun el i wr => ∃ (k : Nat) (A : Option Addr) (m c : Nat) (vs : List Sl) (E : List (List Int)) (S : List ByteArray), k ≤ 720 ∧ i = .int .i64 k ∧ el = .slice A m c ∧ m ≤ 720 ∧ CloS w wr b N gs A m c vs E S k 0) (fun _ i _ => 800 - (intOf i).toNat)
  case atStart => exact ⟨0, _, 1, 1, _, _, _, Nat.zero_le _, rfl, rfl, by omega, hst⟩
  case round =>
    clear hst
    obtain ⟨k, A, m, c, vs, E, S, hk, rfl, rfl, hm, hr⟩ := hrel
    have hml := hr.o.slen
    by_cases hlt : k < m
    · go_wp2
      go_loopw [6, 30] (fun el i wi => ∃ (j : Nat) (A : Option Addr) (m c : Nat) (vs : List Sl) (E : List (List Int)) (S : List ByteArray), j ≤ gn ∧ i = .int .i64 j ∧ el = .slice A m c ∧ m ≤ 720 + j ∧ k < m ∧ CloS w wi b N gs A m c vs E S k j) (fun _ i _ => gn - (intOf i).toNat)
      case atStart => exact ⟨0, A, m, c, vs, E, S, Nat.zero_le _, rfl, rfl, by omega, hlt, hr⟩
      case round =>
        clear hr hm hlt hml
        obtain ⟨j, A, m, c, vs, E, S, hj, rfl, rfl, hm, hkm, hr⟩ := hrel
        have hml := hr.o.slen
        by_cases hlj : j < gn
        · have hkE : k < E.length := by omega
          have hjG : j < gs.length := by rw [hgl.out]; exact hlj
          have hpe : PermN N (row E k) := by rw [row_get hkE]; exact (hr.g.gen _ (List.getElem_mem hkE)).perm HP.out
          have hpg : PermN N (row gs j) := by rw [row_get hjG]; exact HP.out _ (List.getElem_mem hjG)
          obtain ⟨ga, Ga, g1, gc1, rfl, cg, hgn1, hgc1, rg⟩ := (HG.out _ hr.bl).get hlj
          obtain ⟨el, ⟨va, vn, vc⟩, rfl, hvk, ck, -, rk⟩ := hr.o.get hkm
          obtain rfl : N = vn := hpe.1.symm.trans rk.len
          obtain rfl : N = g1 := hpg.1.symm.trans rg.len
          dsimp only at ck rk
          have hcomp := compose_any va N vc (row E k) Ga N gc1 (row gs j) wr rk.reads rg (fun q hq => by
            have := hpe.2.bd q (by rw [hpe.1]; omega)
            rw [hpe.1] at this
            omega) (by omega) (by omega)
          have hpp := hpe.mul hpg
          have HJG := Lib.hid hjG
          have HKE := Lib.hid hkE
          have HNW := Lib.hid (fun h2 => Gath.old hr.g (k := k) (j := j) h2)
          have hkey := fun (P : Option Addr) (pn pc : Nat) (w' : World) (h : RI w' P pn (thenP (row E k) (row gs j))) => keyOf_any P pn pc _ w' h (hpp.small (by omega)) (by have := h.len; have := hpp.1; omega)
          have HKEY := Lib.hid hkey
          have hss : (strOfNums (thenP (row E k) (row gs j))).size ≤ maxLen := by rw [strOfNums_size, hpp.1]; unfold maxLen; omega
          have hks := hr.keys _ hpp
          have HR := Lib.hid hr
          clear hkey hpe hpg rk rg
          by_cases hin : thenP (row E k) (row gs j) ∈ E
          · have hlook : tB (strOfNums (thenP (row E k) (row gs j)) ∈ S) = true := tB_yes (hks.2 hin)
            have HG2 := Lib.hid (HNW.out hin)
            obtain ⟨pq, hpq⟩ : ∃ pq, thenP (row E k) (row gs j) = pq := ⟨_, rfl⟩
            rw [hpq] at hcomp hlook hss HKEY
            clear hpq hks HNW hpp hin
            go_wp2_with (first | (go_at_call 204; refine hcomp.mono ?_; rintro e w2 ⟨P, pn, pc, rfl, hoP, hb2⟩) | (go_at_call 203; refine (HKEY.out P pn pc _ hoP.reads).mono ?_; rintro e w3 ⟨rfl, hb3⟩) | (at_lookup; refine wpList_seen _ rfl _ _ rfl b m S rfl ((HR.out.s.below hb2).below hb3) _ hss rfl ?_; rw [hlook]))
            have h3 := (HR.out.below hb2).below hb3
            have H3 := Lib.hid (show CloS w w3 b N gs (some ⟨el, 0, none⟩) m c vs E S k (j + 1) from ⟨h3.bl, h3.o, h3.s, h3.keys, HG2.out⟩)
            go_roundw
            case rel => exact ⟨j + 1, _, m, c, vs, E, S, by omega, by go_num, rfl, by omega, hkm, H3.out⟩
            case measure => simp [intOf]; omega
          · have hlook : tB (strOfNums (thenP (row E k) (row gs j)) ∈ S) = false := tB_no (fun h => hin (hks.1 h))
            have HIN := Lib.hid hin
            have hmax : m < maxLen := by unfold maxLen; omega
            have hmb : m + 1 ≤ 2199023255552 := by omega
            obtain ⟨pq, hpq⟩ : ∃ pq, thenP (row E k) (row gs j) = pq := ⟨_, rfl⟩
            have HPQ := Lib.hid hpq
            rw [hpq] at hcomp hlook hss HKEY
            clear hpq hks HNW hpp
            go_wp2_with (first | (go_at_call 204; refine hcomp.mono ?_; rintro e w2 ⟨P, pn, pc, rfl, hoP, hb2⟩) | (go_at_call 203; refine (HKEY.out P pn pc _ hoP.reads).mono ?_; rintro e w3 ⟨rfl, hb3⟩) | (at_lookup; refine wpList_seen _ rfl _ _ rfl b m S rfl ((HR.out.s.below hb2).below hb3) _ hss rfl ?_; rw [hlook]) | (at_mapUpdate; refine wpList_see _ rfl _ _ _ (.inl rfl) b m S rfl ((HR.out.s.below hb2).below hb3) hmax _ hss rfl rfl ?_; intro w4 s4 g4; have h3 := (HR.out.below hb2).below hb3; have hO4 := h3.o.offmap h3.s g4; have hP3 := hoP.below hb3; have hP4 := (hP3.kept g4 (.inr (h3.s.far hP3.os))).more HR.out.bl.size; have hap := HR.out.o.apart_new (v := (P, pn, pc)) (fun q hq => (hoP.os.lt hq).1); have hB4 := Nat.le_trans h3.bl.size g4.size) | (at_builtin; refine app_row _ rfl (.tmp 48) (.tmp 50) rfl w.heap.size _ m c vs E rfl hO4 (P, pn, pc) pq hP4 hap w4.heap.size rfl rfl hmb hB4 ?_; intro A6 c6 w6 ho6 hg6 hf6))
            have hN := CloS.new h3 (by omega) HP.out HKE.out HJG.out HIN.out hwb (by rw [HPQ.out]; exact s4) g4 (by rw [HPQ.out]; exact ho6) hg6
            go_roundw
            case rel => exact ⟨j + 1, A6, m + 1, c6, _, _, _, by omega, by go_num, rfl, by omega, by omega, hN⟩
            case measure => simp [intOf]; omega
        · obtain rfl : j = gn := by omega
          have hgj := hr.g
          rw [← hgl.out] at hgj
          have hBB := Lib.hid hr.bl
          by_cases hbig : m > 720
          · have HOV := Lib.hid (hgj.over (m := 720) (by omega))
            clear hgj hr
            go_wp2
            go_ret2
            exact ⟨none, 0, 0, false, [], rfl, hBB.out, OR.nil_ _ _ (by decide), .inr ⟨rfl, rfl, HNN.out ▸ HOV.out⟩⟩
          · have hT := Lib.hid (hgj.turn (by omega))
            have HR := Lib.hid hr
            clear hgj hr
            go_wp2
            go_roundw
            case rel => exact ⟨k + 1, A, m, c, vs, E, S, by omega, by go_num, rfl, by omega, ⟨HR.out.bl, HR.out.o, HR.out.s, HR.out.keys, hT.out⟩⟩
            case measure => simp [intOf]; omega
    · have hkm : k = m := by have := hr.g.pos; omega
      have hg0 := hr.g
      rw [hkm, ← hml] at hg0
      have hpos : 0 < m := by
        rw [← hml]
        exact List.length_pos_of_mem hg0.one
      have hso := sortOwn_any w.heap.size A m c E wr ⟨vs, hr.o⟩ (by omega) hpos hg0.nd
      have HGL := Lib.hid hg0.genL
      have HLN := Lib.hid (show (setG cmpL E).length ≤ 720 from Nat.le_trans (setG_len E) (by omega))
      have hBB := Lib.hid hr.bl
      have hA := Lib.hid (fun q (hq : blk A = some q) => (hr.o.os.lt hq).1)
      clear hr hg0
      go_wp2_with fail
      refine hso.mono ?_
      rintro e w6 ⟨rfl, ho6, hg6⟩
      have hb6 := below_own hBB.out hg6 hBB.out.size hA.out
      clear hso hg6
      go_wp2
      go_ret2
      exact ⟨A, m, c, true, setG cmpL E, rfl, hb6, ho6, .inl ⟨rfl, HLN.out, HNN.out ▸ HGL.out⟩⟩
end Go.Proofs.YtemdjochphehjaaGreat
/- Groups, the program's choice of generators and ValidGroup. No condition beyond those stated. -/
namespace Go.Proofs.YtemdjochphehjaaGreat
open Go.RowKit Go.Maps

/-- how far the choice of generators has come: those chosen and what they generate, or that this is too much -/
def ChoTo (n : Nat) (L gs M : List (List Int)) (ok : Bool) (k : Nat) : Prop := (ok = true ∧ Chose n L gs M k ∧ M.length ≤ 720) ∨ (ok = false ∧ M = [] ∧ Over n L 720)
def RetCho (w : World) (n : Nat) (L : List (List Int)) (e : Ending) (w' : World) : Prop :=
  ∃ (GA : Option Addr) (gn gc : Nat) (A : Option Addr) (m c : Nat) (ok : Bool) (M gs : List (List Int)), e = .returned (.tuple #[.slice GA gn gc, .slice A m c, .bool ok]) ∧ Below w.heap.size w w' ∧ M.length = m ∧ ChoTo n L gs M ok L.length
set_option maxRecDepth 100000 in
set_option maxHeartbeats 2000000 in
theorem chosen_any (n : Nat) (LA : Option Addr) (ln lc : Nat) (L : List (List Int)) (w : World) (hL : RR w LA ln L) (hp : AllN n L) (hn : n ≤ 32) (hln : ln ≤ 1048576) :
    Calls Tryz.prog 127 #[.int .i64 n, .slice LA ln lc] w (RetCho w n L) := by
  have hll := Lib.hid hL.len
  have HP := Lib.hid hp
  have hc0 := closure_any n none 0 0 [] w (RS.nil_ _ _ _) (fun g h => by simp at h) hn (by omega)
  clear hp
  go_enter Tryz.func127, Tryz.ntmps127
  go_wp2_with fail
  refine hc0.mono ?_
  rintro e w1 ⟨A1, m1, c1, ok1, M1, rfl, hb1, ho1, hs1⟩
  have hst : ChoTo n L [] M1 ok1 0 := by
    rcases hs1 with ⟨h1, h2, h3⟩ | ⟨h1, h2, h3⟩
    · exact .inl ⟨h1, ⟨fun g h => by simp at h, h3, fun i h => by omega⟩, h2⟩
    · exact .inr ⟨h1, h2, h3.up fun g h => by simp at h⟩
  have HST := Lib.hid hst
  have r1 := ho1.reads
  clear hc0 hs1 hst ho1
  go_wp2
  go_loopw [7, 8, 9, 21] (fun gv av ov i wr => ∃ (k : Nat) (GA : Option Addr) (gn gc : Nat) (vs : List Sl) (gs : List (List Int)) (A : Option Addr) (m c : Nat) (ok : Bool) (M : List (List Int)), k ≤ ln ∧ gn ≤ k ∧ gv = .slice GA gn gc ∧ av = .slice A m c ∧ ov = .bool ok ∧ i = .int .i64 k ∧ OS wr w.heap.size 22 1 GA gn gc (vs.map slv) ∧ Rows w vs gs ∧ RR wr A m M ∧ Below w.heap.size w wr ∧ ChoTo n L gs M ok k) (fun _ _ _ i _ => ln - (intOf i).toNat)
  case atStart => exact ⟨0, none, 0, 0, [], [], _, _, _, _, _, Nat.zero_le _, Nat.zero_le _, rfl, rfl, rfl, rfl, OS.nil_ _ _ _ _, Rows.nil_ _, r1, hb1, HST.out⟩
  case round =>
    clear r1 hb1 HST
    obtain ⟨k, GA, gn, gc, vs, gs, A, m, c, ok, M, hk, hgk, rfl, rfl, rfl, rfl, hG, hR, hA, hb, hc⟩ := hrel
    by_cases hlt : k < ln
    · have hkL : k < L.length := by rw [hll.out]; exact hlt
      obtain ⟨la, P, pn, pc, rfl, cp0, hp1, hp2, rp⟩ := hL.get hlt
      have cp := below_cell hb cp0
      have rp1 := rp.keep hb
      have hm720 : m ≤ 720 := by
        rw [← hA.len]
        rcases hc with ⟨_, _, h⟩ | ⟨_, h, _⟩
        · exact h
        · rw [h]; simp
      have hsM : StrictL cmpL M := by
        rcases hc with ⟨_, h, _⟩ | ⟨_, h, _⟩
        · exact h.all.1
        · rw [h]; exact List.Pairwise.nil
      have hbs := binSearch_any A m c M P pn pc (row L k) wr hA (by omega) rp1 hp1 hp2 hsM
      have HKL := Lib.hid hkL
      have HC := Lib.hid hc
      have HRP := Lib.hid rp
      have HR := Lib.hid hR
      clear hsM hc rp hR
      by_cases hin : row L k ∈ M
      · rw [tB_yes hin] at hbs
        have hN : ChoTo n L gs M ok (k + 1) := by
          rcases HC.out with ⟨h1, h2, h3⟩ | h
          · exact .inl ⟨h1, h2.skip hin, h3⟩
          · exact .inr h
        have HN := Lib.hid hN
        clear hN hin
        go_wp2_with (go_at_call 173; refine hbs.mono ?_; rintro e w2 ⟨q, rfl, rfl⟩)
        go_roundw
        case rel => exact ⟨k + 1, GA, gn, gc, vs, gs, A, m, c, ok, M, by omega, by omega, rfl, rfl, rfl, by go_num, hG, HR.out, hA, hb, HN.out⟩
        case measure => simp [intOf]; omega
      · rw [tB_no hin] at hbs
        cases ok with
        | false =>
          have HN := Lib.hid (show ChoTo n L gs M false (k + 1) from by
            rcases HC.out with ⟨h1, _⟩ | h
            · cases h1
            · exact .inr h)
          clear hin
          go_wp2_with (go_at_call 173; refine hbs.mono ?_; rintro e w2 ⟨q, rfl, rfl⟩)
          go_roundw
          case rel => exact ⟨k + 1, GA, gn, gc, vs, gs, A, m, c, false, M, by omega, by omega, rfl, rfl, rfl, by go_num, hG, HR.out, hA, hb, HN.out⟩
          case measure => simp [intOf]; omega
        | true =>
          have hch : Chose n L gs M k := by
            rcases HC.out with ⟨_, h, _⟩ | ⟨h, _⟩
            · exact h
            · cases h
          have HCH := Lib.hid hch
          have hgb : gn + 1 ≤ 2199023255552 := by omega
          have hbs2 := hb.size
          clear hin hch
          go_wp2_with (first | (go_at_call 173; refine hbs.mono ?_; rintro e w2 ⟨q, rfl, rfl⟩) | (at_builtin; refine app_sl _ rfl (.tmp 36) (.tmp 38) rfl w.heap.size GA gn gc vs rfl hG (P, pn, pc) wr.heap.size rfl rfl hgb hbs2 ?_; intro G5 gc5 w5 ho5 hg5 hn5))
          have hb5 : Below w.heap.size w w5 := below_own hb hg5 hbs2 (fun q hq => (hG.lt hq).1)
          have hR5 := HR.out.snoc (v := (P, pn, pc)) hp1 hp2 HRP.out
          have hgl5 := (hR5.keep hb5).reads ho5
          have hsub : ∀ g ∈ gs ++ [row L k], g ∈ L := fun g hg => by
            rcases List.mem_append.1 hg with hg | hg
            · exact HCH.out.sub g hg
            · rw [List.mem_singleton.1 hg, row_get HKL.out]; exact List.getElem_mem _
          have hcl := closure_any n G5 (gn + 1) gc5 (gs ++ [row L k]) w5 hgl5 (fun g hg => HP.out g (hsub g hg)) hn (by omega)
          have HSUB := Lib.hid hsub
          have HR5 := Lib.hid hR5
          clear hsub hR5 hgl5 hbs hG hg5 hn5 rp1 hA
          go_wp2_with fail
          refine hcl.mono ?_
          rintro e w6 ⟨A6, m6, c6, ok6, M6, rfl, hb6, ho6, hs6⟩
          have hN : ChoTo n L (gs ++ [row L k]) M6 ok6 (k + 1) := by
            rcases hs6 with ⟨h1, h2, h3⟩ | ⟨h1, h2, h3⟩
            · exact .inl ⟨h1, HCH.out.take HKL.out HP.out h3, h2⟩
            · exact .inr ⟨h1, h2, h3.up HSUB.out⟩
          have HN := Lib.hid hN
          have ho56 := ho5.below hb6
          have hb56 := hb5.trans (hb6.mono hb5.size)
          have r6 := ho6.reads
          clear hcl hs6 hN ho5 hb5 ho6 hb6 hb
          go_wp2
          go_roundw
          case rel => exact ⟨k + 1, G5, gn + 1, gc5, vs ++ [(P, pn, pc)], gs ++ [row L k], A6, m6, c6, ok6, M6, by omega, by omega, rfl, rfl, rfl, by go_num, ho56, HR5.out, r6, hb56, HN.out⟩
          case measure => simp [intOf]; omega
    · obtain rfl : k = ln := by omega
      have HM := Lib.hid hA.len
      have HC := Lib.hid hc
      clear hc
      go_wp2
      go_ret3
      exact ⟨GA, gn, gc, A, m, c, ok, M, gs, rfl, hb, HM.out, by rw [hll.out]; exact HC.out⟩
/-! validity -/
theorem allPerm_iff {d : Int} (h0 : 0 ≤ d) (h1 : d ≤ 32) (L : List (List Int)) : allPerm d L ↔ AllN d.toNat L := by
  constructor
  · intro h g hg
    obtain ⟨j, hj, rfl⟩ := List.mem_iff_getElem.1 hg
    obtain ⟨h2, h3⟩ := h j hj
    rw [row_get hj] at h2 h3
    exact ⟨by omega, h3.2⟩
  · intro h j hj
    have := h (row L j) (by rw [row_get hj]; exact List.getElem_mem hj)
    exact ⟨by rw [this.1]; omega, by rw [this.1]; omega, this.2⟩
def riseG (L : List (List Int)) (k : Nat) : Prop := ∀ i, i + 1 < k → cmpL (row L i) (row L (i + 1)) < 0
theorem riseG_step {L : List (List Int)} {k : Nat} (hk : 0 < k) (h : riseG L k) (h1 : cmpL (row L (k - 1)) (row L k) < 0) : riseG L (k + 1) := fun i hi => by
  by_cases e : i + 1 = k
  · obtain rfl : i = k - 1 := by omega
    rw [show k - 1 + 1 = k by omega]; exact h1
  · exact h i (by omega)
theorem riseG_strict {L : List (List Int)} (h : riseG L L.length) : StrictL cmpL L := by
  have key : ∀ d i : Nat, i + d + 1 < L.length → cmpL (row L i) (row L (i + d + 1)) < 0 := by
    intro d
    induction d with
    | zero => intro i hi; exact h i hi
    | succ d ih =>
      intro i hi
      have h1 := ih i (by omega)
      have h2 := h (i + d + 1) (by omega)
      exact cmpL_ord.lt_trans h1 (by rw [show i + (d + 1) + 1 = i + d + 1 + 1 by omega]; omega)
  refine List.pairwise_iff_getElem.2 fun i j hi hj hij => ?_
  have := key (j - i - 1) i (by omega)
  rw [show i + (j - i - 1) + 1 = j by omega, row_get hi, row_get hj] at this
  exact this
/-- what the choice of generators says -/
theorem choTo_ok {d : Int} {L gs M : List (List Int)} {ok : Bool} (d1 : 1 ≤ d) (d2 : d ≤ 32) (l1 : 1 ≤ L.length) (l2 : L.length ≤ 720) (hp : AllN d.toNat L) (hu : StrictL cmpL L) (h : ChoTo d.toNat L gs M ok L.length) : (ok && decide (M.length = L.length)) = tB (GroupOk d L) := by
  rcases h with ⟨rfl, h, hm⟩ | ⟨rfl, rfl, h⟩
  · by_cases hc : ClosedG d.toNat L
    · rw [tB_yes ⟨d1, d2, l1, l2, hp, hu, hc⟩, closed_all hu hc h.sub h.all h.mem]
      simp
    · rw [tB_no fun hh => hc hh.closed]
      rw [Bool.true_and, decide_eq_false_iff_not]
      intro e
      exact hc (closed_of hu (fun g hg => hp g (h.sub g hg)) h.all h.mem (by omega)).2
  · rw [tB_no fun hh => hh.closed.not_over (fun g hg => hg) hh.l2 h]
    rfl
set_option maxRecDepth 100000 in
set_option maxHeartbeats 2000000 in
theorem validGroup_any (d : Int) (A : Option Addr) (n c : Nat) (L : List (List Int)) (w : World) (hL : RR w A n L) (hn : n ≤ 1099511627776) (hr : cells L ≤ 1099511627776) :
    Calls Tryz.prog 72 #[.agg #[.int .i64 d, .slice A n c]] w (RetB w (tB (GroupOk d L))) := by
  have hll := Lib.hid hL.len
  obtain ⟨W1, hW1⟩ : ∃ W1, w.alloc (.cells #[.int .i64 d, .slice A n c] 54) = W1 := ⟨_, rfl⟩
  have hb1 : Below w.heap.size w W1 := hW1 ▸ below_alloc w _
  have X : Blk W1 w.heap.size 54 #[.int .i64 d, .slice A n c] := hW1 ▸ Blk.new w _ _
  obtain ⟨x0, x1⟩ := X.cells2
  cases hi : inB d 1 32 with
  | false =>
    have H := Lib.hid (show tB (GroupOk d L) = false from tB_no fun hh => by rw [inB_mk ⟨hh.d1, hh.d2⟩] at hi; cases hi)
    go_enter Tryz.func72, Tryz.ntmps72
    go_wp2_with (go_at_call 115; refine (within_any _ _ _ _).mono ?_; rintro e w' ⟨rfl, rfl⟩; rw [hi])
    go_ret
    exact ⟨by rw [H.out]; rfl, hb1⟩
  | true =>
    obtain ⟨d1, d2⟩ := inB_true hi
    by_cases h0 : n < 1
    · have H := Lib.hid (show tB (GroupOk d L) = false from tB_no fun hh => by have := hh.l1; rw [hll.out] at this; omega)
      have h0' : (n : Int) < 1 := by omega
      go_enter Tryz.func72, Tryz.ntmps72
      go_wp2_with (go_at_call 115; refine (within_any _ _ _ _).mono ?_; rintro e w' ⟨rfl, rfl⟩; rw [hi])
      go_ret
      exact ⟨by rw [H.out]; rfl, hb1⟩
    · have h0' : ¬ (n : Int) < 1 := by omega
      by_cases h7 : n > 720
      · have H := Lib.hid (show tB (GroupOk d L) = false from tB_no fun hh => by have := hh.l2; rw [hll.out] at this; omega)
        have h7' : (n : Int) > 720 := by omega
        go_enter Tryz.func72, Tryz.ntmps72
        go_wp2_with (go_at_call 115; refine (within_any _ _ _ _).mono ?_; rintro e w' ⟨rfl, rfl⟩; rw [hi])
        go_ret
        exact ⟨by rw [H.out]; rfl, hb1⟩
      · have h7' : ¬ (n : Int) > 720 := by omega
        have hap := arePermutations_any d A n c L W1 (hL.keep hb1) hn hr
        cases hpm : tB (allPerm d L) with
        | false =>
          rw [hpm] at hap
          have H := Lib.hid (show tB (GroupOk d L) = false from tB_no fun hh => by
            rw [tB_yes ((allPerm_iff (by omega) d2 L).2 hh.perm)] at hpm; cases hpm)
          go_enter Tryz.func72, Tryz.ntmps72
          go_wp2_with (first | (go_at_call 115; refine (within_any _ _ _ _).mono ?_; rintro e w' ⟨rfl, rfl⟩; rw [hi]) | (go_at_call 116; refine hap.mono ?_; rintro e w2 ⟨rfl, hb2⟩))
          go_ret
          exact ⟨by rw [H.out]; rfl, below_then hb1 hb2⟩
        | true =>
          rw [hpm] at hap
          have hall := Lib.hid ((allPerm_iff (by omega) d2 L).1 (tB_true.1 hpm))
          obtain ⟨D, rfl⟩ : ∃ D : Nat, d = (D : Int) := ⟨d.toNat, by omega⟩
          clear hpm
          go_enter Tryz.func72, Tryz.ntmps72
          go_wp2_with (first | (go_at_call 115; refine (within_any _ _ _ _).mono ?_; rintro e w' ⟨rfl, rfl⟩; rw [hi]) | (go_at_call 116; refine hap.mono ?_; rintro e w2 ⟨rfl, hb2⟩))
          have hb12 := below_then hb1 hb2
          have hX2 := X.after hb2
          clear hap
          go_loopw [3] (fun i wr => ∃ k : Nat, 1 ≤ k ∧ k ≤ n ∧ i = .int .i64 k ∧ Below w.heap.size w wr ∧ Blk wr w.heap.size 54 #[.int .i64 D, .slice A n c] ∧ riseG L k) (fun i _ => n - (intOf i).toNat)
          case atStart => exact ⟨1, Nat.le_refl _, by omega, rfl, hb12, hX2, fun i h => by omega⟩
          case round =>
            clear x0 x1 hX2 hb12 hb2 X hW1 hb1
            obtain ⟨k, hk1, hk, rfl, hb, X, hup⟩ := hrel
            obtain ⟨x0, x1⟩ := X.cells2
            by_cases hlt : k < n
            · have hrr := hL.keep hb
              obtain ⟨a, P0, p0, q0, rfl, c0, hp0, hq0, r0⟩ := hrr.get (show k - 1 < n by omega)
              obtain ⟨a', P1, p1, q1, ha', c1', hp1, hq1, r1⟩ := hrr.get hlt
              cases ha'
              have hcm := fun (j : Nat) => (slicesCompare_any P0 P1 p0 p1 q0 q1 (row L (k - 1)) (row L k) (wr.drewN j) (r0.drewN j) (r1.drewN j) (by omega) (by omega)).mono fun _ _ h => Quiet.of_same h
              have hbd := cmpL_bd (row L (k - 1)) (row L k)
              have HLT := Lib.hid (show k < L.length by rw [hll.out]; exact hlt)
              have e1 : IntKind.i64.wrap ((k : Int) - 1) = (k : Int) - 1 := IntWalk.i64_in _ (by omega)
              have e2 : ((k : Int) - 1).toNat = k - 1 := by omega
              have e3 : (0 : Int) ≤ (k : Int) - 1 := by omega
              by_cases hc : cmpL (row L (k - 1)) (row L k) < 0
              · have HN := Lib.hid (riseG_step hk1 hup hc)
                generalize cmpL (row L (k - 1)) (row L k) = s at *
                have hs' : ¬ s ≥ 0 := by omega
                clear hup hrr r0 r1
                go_wp2
                go_quiet ((go_at_call 120; exact Quiet.call (hcm _)))
                clear e1 e2 e3
                go_wp2
                go_roundw
                case rel => exact ⟨k + 1, by omega, by omega, by go_num, hb.trans ((below_drewn _ _).mono hb.size), X.after (below_drewn _ _), HN.out⟩
                case measure => simp [intOf]; omega
              · have H := Lib.hid (show tB (GroupOk (D : Int) L) = false from tB_no fun hh => hc (row_strict hh.up (show k - 1 < k by omega) HLT.out))
                generalize cmpL (row L (k - 1)) (row L k) = s at *
                have hs' : s ≥ 0 := by omega
                clear hup hrr r0 r1
                go_wp2
                go_quiet ((go_at_call 120; exact Quiet.call (hcm _)))
                clear e1 e2 e3
                go_wp2
                go_ret
                exact ⟨by rw [H.out]; rfl, hb.trans ((below_drewn _ _).mono hb.size)⟩
            · obtain rfl : k = n := by omega
              have hu : StrictL cmpL L := riseG_strict (by rw [hll.out]; exact hup)
              have hch := chosen_any D A k c L wr (hL.keep hb) hall.out (by omega) (by omega)
              have HU := Lib.hid hu
              clear hup hu
              go_wp2_with fail
              refine hch.mono ?_
              rintro e w3 ⟨GA, gn, gc, A3, m3, c3, ok, M, gs, rfl, hb3, hml, hc⟩
              have hfin := choTo_ok (d := (D : Int)) d1 d2 (by rw [hll.out]; omega) (by rw [hll.out]; omega) hall.out HU.out hc
              rw [hml, hll.out] at hfin
              have HFI := Lib.hid hfin
              have X3 := X.after hb3
              have hb33 := below_then hb hb3
              clear hch hc hfin hml
              obtain ⟨y0, y1⟩ := X3.cells2
              cases ok with
              | false =>
                go_wp2
                go_ret
                exact ⟨by rw [← HFI.out]; rfl, hb33⟩
              | true =>
                go_wp2
                go_ret
                refine ⟨?_, hb33⟩
                rw [← HFI.out, Bool.true_and]
                by_cases e : m3 = k
                · subst e; simp
                · have e1 : ((m3 : Int) == (k : Int)) = false := by simp; omega
                  simp [e, e1]
end Go.Proofs.YtemdjochphehjaaGreat
