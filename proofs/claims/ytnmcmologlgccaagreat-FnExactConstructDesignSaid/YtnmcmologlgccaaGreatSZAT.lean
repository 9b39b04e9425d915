/- The next set of a size, all sets of a size: the program's side. No condition beyond those stated. -/
import Derived.Test.YtnmcmologlgccaaGreatSZAS
import Derived.Deep.LoopGhost
set_option linter.unusedVariables false
set_option linter.unusedSimpArgs false
namespace Go.Proofs.YtnmcmologlgccaaGreat
open Go.RowKit
def upF (x : Int) (m : Nat) : List Int := (List.range m).map fun (j : Nat) => x + 1 + (j : Int)
theorem upF_step (x : Int) (m : Nat) : upF x (m + 1) = upF x m ++ [x + 1 + (m : Int)] := by simp [upF, List.range_succ]
theorem upF_len (x : Int) (m : Nat) : (upF x m).length = m := by simp [upF]
def nsF (n : Nat) (s : List Int) : Nat → Option (List Int)
  | 0 => none
  | i + 1 => if nth s i = (n : Int) - s.length + i then nsF n s i else some (s.take i ++ upF (nth s i) (s.length - i))
def nxS (n : Nat) (s : List Int) : Option (List Int) := nsF n s s.length
theorem set_drop {L s : List Int} {v : Int} {j : Nat} (hL : L.length = j) (hj : j < s.length) : (L ++ s.drop j).set j v = (L ++ [v]) ++ s.drop (j + 1) := by
  rw [List.set_append_right _ _ (by omega), hL, Nat.sub_self, List.drop_eq_getElem_cons hj, List.set_cons_zero, List.append_assoc]
  rfl
def RetNs (w : World) (m : Nat) (r : Option (List Int)) (e : Ending) (w' : World) : Prop := Below w.heap.size w w' ∧ match r with
  | some t => ∃ B d, e = .returned (.tuple #[.slice B m d, .bool true]) ∧ OI w' w.heap.size 2 B m d t
  | none => e = .returned (.tuple #[.slice none 0 0, .bool false])
theorem sizK_any (A : Option Addr) (n c : Nat) (w : World) (_ : n ≤ 9223372036854775807) : Calls Tryz.prog 48 #[.slice A n c] w fun e w' => e = .returned (.int .i64 n) ∧ w = w' := by
  go_enter Tryz.func48, Tryz.ntmps48
  go_wp2
  go_ret
  exact ⟨rfl, rfl⟩
set_option maxRecDepth 100000 in
set_option maxHeartbeats 4000000 in
theorem nextS_any (n m : Nat) (s : List Int) (A : Option Addr) (c : Nat) (w : World) (ha : RI w A m s) (hr : Rises s 0 ((n : Int) - 1)) (hn1 : 1 ≤ n) (hn : n ≤ 32) (hm : m ≤ 32) :
    Calls Tryz.prog 137 #[.int .i64 n, .slice A m c] w (RetNs w m (nxS n s)) := by
  have hl := ha.len
  have hv := validSet_any A m c s (n : Int) w ha (by omega) (by omega) (by omega)
  rw [tB_yes hr] at hv
  have HCL := Lib.hid (clone_any A m c s w ha (by omega))
  have HR := Lib.hid hr
  obtain ⟨res, hres⟩ : ∃ res, res = nxS n s := ⟨_, rfl⟩
  rw [← hres]
  have H0 : Hid (res = nsF n s m) := Lib.hid (by rw [hres, nxS, hl])
  have HL := Lib.hid hl
  clear hres hr
  go_enter Tryz.func137, Tryz.ntmps137
  go_wp2_with (first | (go_at_call 110; refine hv.mono ?_; rintro e w' ⟨rfl, rfl⟩) | (go_at_call 48; refine (sizK_any _ _ _ _ (by omega)).mono ?_; rintro e w' ⟨rfl, rfl⟩))
  go_loop [7] (fun iv => ∃ (i : Nat) (z : Int), i ≤ m ∧ z + 1 = i ∧ iv = .int .i64 z ∧ Hid (res = nsF n s i)) (fun iv => (intOf iv + 1).toNat)
  case atStart => exact ⟨m, _, Nat.le_refl _, by omega, rfl, H0⟩
  case round =>
    clear H0
    obtain ⟨i, z, hi, hz, rfl, HI⟩ := hrel
    cases i with
    | zero =>
      obtain rfl : z = -1 := by omega
      have HN : Hid (res = none) := Lib.hid HI.out
      clear HCL HI
      go_wp2
      go_ret2
      rw [HN.out]
      exact ⟨Below.refl _ _, rfl⟩
    | succ i =>
      obtain rfl : z = (i : Int) := by omega
      obtain ⟨ad, rfl, ci, ii⟩ := ha.get (k := i) (by omega)
      have hst := HI.out
      rw [nsF, hl] at hst
      have hnb := (HR.out.1 i (by omega))
      by_cases he : nth s i = (n : Int) - m + i
      · rw [if_pos he] at hst
        have HST := Lib.hid hst
        have e1 : (nth s i == (n : Int) - m + i) = true := by simp [he]
        generalize nth s i = x at *
        clear HCL hst HI he
        go_wp2
        go_round
        case rel => exact ⟨i, (i : Int) - 1, by omega, by omega, by go_num, HST⟩
        case measure => simp only [intOf]; omega
      · rw [if_neg he] at hst
        have HST := Lib.hid hst
        have e1 : (nth s i == (n : Int) - m + i) = false := by simp [he]
        generalize nth s i = x at *
        clear hst HI he
        have ci' := fun (w' : World) (h : Below w.heap.size w w') => below_cell h ci
        go_wp2_with (go_at_call 60; refine HCL.out.mono ?_; rintro e w2 ⟨D, dn, dc, rfl, ho, hb2⟩; have hdn := ho.len; obtain rfl : dn = m := by omega)
        go_loopw [9] (fun jv wr => ∃ q : Nat, i + q ≤ dn ∧ jv = .int .i64 ((i : Int) + q) ∧ OI wr w.heap.size 2 D dn dc ((s.take i ++ upF x q) ++ s.drop (i + q)) ∧ Below w.heap.size w wr) (fun jv _ => (dn - intOf jv).toNat)
        case atStart => exact ⟨0, by omega, by simp, by simpa [upF] using ho, hb2⟩
        case round =>
          clear ho hb2
          obtain ⟨q, hq, rfl, ho, hb2⟩ := hrel
          have cx := below_cell hb2 ci
          by_cases hlt : i + q < dn
          · obtain ⟨g, rfl, cz, fz, iz⟩ := ho.cell (k := i + q) hlt
            have hLl : (s.take i ++ upF x q).length = i + q := by rw [List.length_append, List.length_take, upF_len]; omega
            have ho2 := ho.set (i + q) (u := x + 1 + (q : Int)) ⟨by omega, by omega⟩
            rw [set_drop hLl (by omega), List.append_assoc (s.take i), ← upF_step] at ho2
            have HO2 := Lib.hid ho2
            have hgB := (ho.os.lt (k := g) rfl).1
            have hb3 := Below.setCell hb2 (p := ⟨g, i + q, none⟩) hgB (.int .i64 (x + 1 + (q : Int)))
            have e5 : x + 1 + ((i : Int) + q) - i = x + 1 + (q : Int) := by omega
            clear ho hb2 ho2 hLl ci' iz
            go_wp2
            go_roundw
            case rel => exact ⟨q + 1, by omega, by go_num, HO2.out, hb3⟩
            case measure => simp only [intOf]; omega
          · have hq2 : q = dn - i := by omega
            have HQ := Lib.hid (show (s.take i ++ upF x q) ++ s.drop (i + q) = s.take i ++ upF x (dn - i) by rw [List.drop_eq_nil_of_le (by omega), List.append_nil, hq2])
            rw [HQ.out] at ho
            have HOO := Lib.hid ho
            have HBB := Lib.hid hb2
            clear ho hb2 ci'
            go_wp2
            go_ret2
            rw [HST.out]
            exact ⟨HBB.out, D, dc, rfl, HOO.out⟩
def riseB (n : Nat) (s : List Int) : Bool := (List.range s.length).all fun k => decide (0 ≤ nth s k) && decide (nth s k ≤ (n : Int) - 1) && decide (k + 1 < s.length → nth s k < nth s (k + 1))
theorem riseB_ok {n : Nat} {s : List Int} (h : riseB n s = true) : Rises s 0 ((n : Int) - 1) := by
  unfold riseB at h
  rw [List.all_eq_true] at h
  refine ⟨fun k hk => ?_, fun k hk => ?_⟩
  · have := h k (List.mem_range.2 hk)
    simp only [Bool.and_eq_true, decide_eq_true_eq] at this
    exact ⟨this.1.1, this.1.2⟩
  · have := h k (List.mem_range.2 (by omega))
    simp only [Bool.and_eq_true, decide_eq_true_eq] at this
    exact this.2 hk
def alF (n m : Nat) : Nat → List Int → Option (List (List Int))
  | 0, _ => none
  | f + 1, s => if riseB n s && decide (s.length = m) then (match nxS n s with
    | none => some [s]
    | some t => (alF n m f t).map (s :: ·)) else none
set_option maxRecDepth 100000 in
set_option maxHeartbeats 4000000 in
theorem allSets_any (n k F : Nat) (L : List (List Int)) (w : World) (hn1 : 1 ≤ n) (hn : n ≤ 32) (hk : k ≤ n) (hF : F ≤ 1000) (h : alF n k F (iotaP k) = some L) :
    Calls Tryz.prog 88 #[.int .i64 n, .int .i64 k] w (RetR w 36 2 L) := by
  have HA := Lib.hid h
  clear h
  go_enter Tryz.func88, Tryz.ntmps88
  go_wp2_with fail
  refine (identity_any k _ (by omega)).mono ?_
  rintro e w1 ⟨S0, m0, d0, rfl, ho0, hb1⟩
  have hl0 := ho0.len
  rw [iotaP_len] at hl0
  subst hl0
  go_wp2
  go_loopg [5, 6, 7] F (fun f lv sv mv wr => ∃ (j : Nat) (B : Option Addr) (bc : Nat) (vs : List Sl) (done : List (List Int)), j + f ≤ F ∧ lv = .slice B j bc ∧ ORv wr w.heap.size 36 2 B j bc vs done ∧ Below w.heap.size w wr ∧
    ((∃ S d s rest, sv = .slice S k d ∧ mv = .bool true ∧ OI wr w.heap.size 2 S k d s ∧ (∀ (j : Nat) (u : Sl), vs[j]? = some u → apart u (S, k, d)) ∧ Hid (alF n k f s = some rest) ∧ Hid (L = done ++ rest)) ∨ (mv = .bool false ∧ Hid (L = done))))
  case atStart => exact ⟨0, none, 0, [], [], by omega, rfl, ⟨OS.nil_ _ _ _ _, rfl, fun j v z h => by simp at h, fun i j v u _ h => by simp at h, by decide⟩, hb1, .inl ⟨S0, d0, iotaP k, L, rfl, rfl, ho0, fun j u h => by simp at h, HA, Lib.hid rfl⟩⟩
  case round =>
    clear ho0 hb1 HA
    obtain ⟨j, B, bc, vs, done, hjf, rfl, hov, hb, ⟨S, d, s, rest, rfl, rfl, hoi, hap, HAF, HD⟩ | ⟨rfl, HD⟩⟩ := hrel
    · have hA := HAF.out
      cases gk with
      | zero => cases hA
      | succ gk =>
        unfold alF at hA
        split at hA
        · rename_i hrb
          rw [Bool.and_eq_true] at hrb
          have hrs := riseB_ok hrb.1
          have hbs := hb.size
          have HA2 := Lib.hid hA
          clear hA hrb HAF
          have hvl := hov.len
          have hos := hov.slen
          go_wp2_with (at_builtin; refine app_row _ rfl (.tmp 14) (.tmp 16) rfl w.heap.size B j bc vs done rfl hov (S, k, d) s hoi hap _ rfl rfl (by omega) hbs ?_; intro A4 c4 w4 ho4 hg4 hn4; have hoi4 := ho4.rows vs.length (S, k, d) s (by simp) (by rw [hvl]; simp); have hns := nextS_any n k s S d w4 hoi4.reads hrs hn1 hn (by omega); have hb4 := below_own hb hg4 hbs (fun b hb => (hov.os.lt hb).1))
          refine hns.mono ?_
          rintro e w5 ⟨hb5, hm⟩
          have ho5 := ho4.below hb5
          have hw5 := hb4.trans (hb5.mono hb4.size)
          have hz4 := hb4.size
          clear hns hoi4 hoi hap hov hg4 hn4 hb
          generalize nxS n s = r at *
          cases r with
          | none =>
            simp only at hm
            subst hm
            have HE := Lib.hid (show L = done ++ [s] by
              have := HA2.out
              simp only at this
              injection this with this
              rw [HD.out, ← this])
            go_wp2
            go_roundg gk
            case rel => exact ⟨j + 1, A4, c4, _, _, by omega, rfl, ho5, hw5, .inr ⟨rfl, HE⟩⟩
            case measure => omega
          | some t =>
            simp only at hm
            obtain ⟨D, dd, rfl, hod⟩ := hm
            obtain ⟨rest', hr1, hr2⟩ : ∃ rest', alF n k gk t = some rest' ∧ rest = s :: rest' := by
              have := HA2.out
              simp only [Option.map_eq_some_iff] at this
              obtain ⟨a, h1, h2⟩ := this
              exact ⟨a, h1, h2.symm⟩
            have HR1 := Lib.hid hr1
            have HE := Lib.hid (show L = (done ++ [s]) ++ rest' by rw [HD.out, hr2, List.append_assoc]; rfl)
            have hap5 := ho4.apart_new (v := (D, k, dd)) (fun b hb => (hod.os.lt hb).1)
            have hod5 := hod.more hz4
            clear hr1 hr2
            go_wp2
            go_roundg gk
            case rel => exact ⟨j + 1, A4, c4, _, _, by omega, rfl, ho5, hw5, .inl ⟨D, dd, t, rest', rfl, rfl, hod5, hap5, HR1, HE⟩⟩
            case measure => omega
        · cases hA
    · have hlj := hov.slen
      go_wp2
      go_ret
      exact ⟨B, j, bc, rfl, ⟨vs, by rw [HD.out]; exact hov⟩, hb⟩
def okS (n : Nat) (s : List Int) : Bool := decide (0 < s.length) && decide (s.length ≤ 32) && (s.all fun x => decide (0 ≤ x) && decide (x < n)) && (List.range (s.length - 1)).all fun k => decide (nth s k < nth s (k + 1))
theorem okS_block {n : Nat} {s : List Int} (h : okS n s = true) : Block s (n : Int) ∧ s.length ≤ 32 := by
  simp only [okS, Bool.and_eq_true, decide_eq_true_eq, List.all_eq_true, List.mem_range] at h
  obtain ⟨⟨⟨h1, h2⟩, h3⟩, h4⟩ := h
  refine ⟨⟨h1, fun k hk => ?_, fun k hk => h4 k (by omega)⟩, h2⟩
  have := h3 _ (List.getElem_mem hk)
  rw [nth_get hk]
  omega
theorem allBlk_one {n : Nat} {s : List Int} (h : okS n s = true) : allBlk [s] (n : Int) := fun q hq => by
  obtain rfl : q = 0 := by simpa using hq
  exact (okS_block h).1
theorem RR.one {w : World} {A : Option Addr} {n c : Nat} {s : List Int} (h : RI w A n s) (h1 : n ≤ c) (h2 : c ≤ 9223372036854775807) :
    RR (w.alloc (.cells #[.slice A n c] 36)) (some ⟨w.heap.size, 0, none⟩) 1 [s] :=
  ⟨rfl, fun j x hx => by
    have hj : j = 0 := by have := (List.getElem?_eq_some_iff.1 hx).1; simpa using this
    subst hj
    obtain rfl : s = x := by simpa using hx
    exact ⟨_, _, rfl, (Blk.new w 36 #[.slice A n c]).cell 0, A, n, c, rfl, h1, h2, h.keep (below_alloc w _)⟩⟩
set_option maxHeartbeats 1000000 in
theorem areBases_ok (n : Nat) (A : Option Addr) (m c : Nat) (sets : List (List Int)) (w : World) (ha : RR w A m sets) (hm : m ≤ 8) (hn1 : 1 ≤ n) (hn : n ≤ 32) (hB : allBlk sets (n : Int)) :
    Calls Tryz.prog 150 #[.int .i64 n, .slice A m c] w fun e w' => e = .returned (.bool true) ∧ Below w.heap.size w w' := by
  have h1 := areBlocks_any A m c sets (n : Int) w ha (by omega)
  rw [inB_mk (show (1 : Int) ≤ n ∧ (n : Int) ≤ 32 by omega), tB_yes hB, Bool.true_and] at h1
  have h2 : decide ((m : Int) ≤ 8) = true := by simp; omega
  go_enter Tryz.func150, Tryz.ntmps150
  go_wp2_with fail
  refine h1.mono ?_
  rintro e w1 ⟨rfl, hb⟩
  go_wp2
  go_ret
  exact ⟨rfl, hb⟩
theorem map_take_step (s : List Int) (f : Int → Int) {i : Nat} (h : i < s.length) : (s.take (i + 1)).map f = (s.take i).map f ++ [f (nth s i)] := by
  rw [List.take_succ_eq_append_getElem h, List.map_append, nth_get h]
  rfl
set_option maxRecDepth 100000 in
set_option maxHeartbeats 2000000 in
theorem mappedSet_any (g : Nat) (lb : Array Value) (eg : ∀ args w, (callFunc g args).run Tryz.prog w = .ok (.enter g args) w) (F : Int → Int) (n : Nat) (A : Option Addr) (m c : Nat) (s : List Int) (w : World) (ha : RI w A m s) (hm : m ≤ 1000) (hn : 1 ≤ n) (hn2 : n ≤ 1000)
    (hF : ∀ i, i < m → 0 ≤ F (nth s i)) (hp : ∀ (i : Nat) (W : World), Below w.heap.size w W → i < m → Calls Tryz.prog g (#[.int .i64 (nth s i)] ++ lb) W fun e w' => e = .returned (.int .i64 (F (nth s i))) ∧ W = w') :
    Calls Tryz.prog 183 #[.int .i64 n, .slice A m c, .func (.func g) #[] lb] w (RetI w 2 (mapK n F s)) := by
  have hla := Lib.hid ha.len
  have HP := Lib.hid hp
  have HF := Lib.hid hF
  clear hp hF
  go_enter Tryz.func183, Tryz.ntmps183
  go_wp2
  go_loopw [7, 12] (fun l iv wr => ∃ (i : Nat) (B : Option Addr) (bc : Nat), i ≤ m ∧ iv = .int .i64 i ∧ l = .slice B i bc ∧ OI wr w.heap.size 2 B i bc ((s.take i).map fun x => F x % n) ∧ Below w.heap.size w wr) (fun _ iv _ => m - (intOf iv).toNat)
  case atStart => exact ⟨0, none, 0, Nat.zero_le _, rfl, rfl, by simpa using OI.nil_ _ _ _, Below.refl _ _⟩
  case round =>
    obtain ⟨i, B, bc, hi, rfl, rfl, ho, hb⟩ := hrel
    by_cases hlt : i < m
    · obtain ⟨ad, rfl, cx, hx64⟩ := (ha.keep hb).get hlt
      have hcall := HP.out i wr hb hlt
      have hf := HF.out i hlt
      have HST := Lib.hid (map_take_step s (fun x => F x % n) (i := i) (by rw [hla.out]; exact hlt))
      have hbs := hb.size
      generalize nth s i = x at *
      have hr1 := Int.emod_nonneg (F x) (show (n : Int) ≠ 0 by omega)
      have hr2 := Int.emod_lt_of_pos (F x) (show (0 : Int) < n by omega)
      have hki : I64 (F x % n) := by unfold I64; omega
      generalize F x = y at *
      go_wp2_with (first | (go_at_fn g; refine hcall.mono ?_; rintro e w4 ⟨rfl, rfl⟩) | (at_builtin; refine app_int _ rfl (.tmp 16) (.tmp 22) rfl w.heap.size B i bc _ rfl ho (y % n) wr.heap.size rfl rfl hki (by omega) hbs ?_; intro A5 c5 w5 ho5 hg5 hf5; have hb5 := below_own hb hg5 hbs (fun b hb => (ho.os.lt hb).1); rw [← HST.out] at ho5))
      go_roundw
      case rel => exact ⟨i + 1, A5, c5, by omega, by go_num, rfl, ho5, hb5⟩
      case measure => simp [intOf]; omega
    · obtain rfl : i = m := by omega
      rw [List.take_of_length_le (by rw [hla.out]; exact Nat.le_refl _)] at ho
      have hso := sort_any _ _ B i bc _ wr ho (by omega)
      go_wp2_with fail
      refine hso.mono ?_
      rintro e w2 ⟨rfl, ho2, hg2⟩
      have hb2 := below_own hb hg2 hb.size (fun b hb => (ho.os.lt hb).1)
      go_wp2
      go_ret
      exact ⟨B, i, bc, rfl, ho2, hb2⟩
theorem translate1_any (x by_ : Int) (p : Addr) (w : World) (hp : w.cell? p = some (.int .i64 by_)) (h1 : 0 ≤ x ∧ x ≤ 1000) (h2 : 0 ≤ by_ ∧ by_ ≤ 1000) : Calls Tryz.prog 184 #[.int .i64 x, .pointer (some p)] w fun e w' => e = .returned (.int .i64 (x + by_)) ∧ w = w' := by
  go_enter Tryz.func184, Tryz.ntmps184
  go_wp2
  go_ret
  exact ⟨rfl, rfl⟩
set_option maxRecDepth 100000 in
set_option maxHeartbeats 1000000 in
theorem translate_any (n : Nat) (A : Option Addr) (m c : Nat) (s : List Int) (k : Nat) (w : World) (ha : RI w A m s) (hm : m ≤ 1000) (hn : 1 ≤ n) (hn2 : n ≤ 1000) (hk : k ≤ 1000) (hs : ∀ i, i < s.length → 0 ≤ nth s i ∧ nth s i ≤ 1000) :
    Calls Tryz.prog 151 #[.int .i64 n, .slice A m c, .int .i64 k] w (RetI w 2 (transK n s k)) := by
  have eg : ∀ (args : Array Value) (w : World), (callFunc 184 args).run Tryz.prog w = .ok (.enter 184 args) w := fun _ _ => by kernel_rfl
  have hla := ha.len
  have hb1 := below_alloc w (.cells #[.int .i64 (k : Int)] 2)
  have hcap : (w.alloc (.cells #[.int .i64 (k : Int)] 2)).cell? ⟨w.heap.size, 0, none⟩ = some (.int .i64 (k : Int)) := (Blk.new w 2 #[.int .i64 (k : Int)]).cell 0
  have hmp := mappedSet_any 184 #[.pointer (some ⟨w.heap.size, 0, none⟩)] eg (fun x => x + k) n A m c s (w.alloc (.cells #[.int .i64 (k : Int)] 2)) (ha.keep hb1) hm hn hn2
    (fun i hi => by have := hs i (by omega); omega)
    (fun i W hW hi => translate1_any (nth s i) k ⟨w.heap.size, 0, none⟩ W (below_cell hW hcap) (hs i (by omega)) (by omega))
  go_enter Tryz.func151, Tryz.ntmps151
  go_wp2_with (go_at_call 183; refine hmp.mono ?_; rintro e w2 ⟨B, k2, c2, rfl, ho, hb2⟩)
  go_ret
  exact ⟨B, k2, c2, rfl, ho.more hb1.size, hb1.trans (hb2.mono hb1.size)⟩
def devK (n : Nat) (s : List Int) (k : Nat) : List (List Int) := (List.range k).map fun (b : Nat) => transK n s (b : Int)
theorem devK_step (n : Nat) (s : List Int) (k : Nat) : devK n s (k + 1) = devK n s k ++ [transK n s (k : Int)] := by simp [devK, List.range_succ]
theorem devK_len (n : Nat) (s : List Int) (k : Nat) : (devK n s k).length = k := by simp [devK]
set_option maxRecDepth 100000 in
set_option maxHeartbeats 4000000 in
theorem developFamily_ok (n : Nat) (A : Option Addr) (c : Nat) (s : List Int) (w : World) (ha : RR w A 1 [s]) (hn1 : 1 ≤ n) (hn : n ≤ 32) (hS : okS n s = true) (hcl : cells (devK n s n) ≤ 1099511627776) :
    Calls Tryz.prog 93 #[.int .i64 n, .slice A 1 c] w (fun e w' => ∃ A' c', e = .returned (.tuple #[.agg #[.int .i64 n, .slice A' n c'], .int .i64 0]) ∧ OR w' w.heap.size 36 2 A' n c' (srtR (devK n s n)) ∧ Below w.heap.size w w') := by
  have hbk := okS_block hS
  have hbd : ∀ i, i < s.length → 0 ≤ nth s i ∧ nth s i ≤ 1000 := fun i hi => by have := hbk.1.2.bd i hi; omega
  have HBD := Lib.hid hbd
  clear hbd
  have hb0 := below_alloc w (.cells #[.int .i64 0, .slice none 0 0] 28)
  have Y := Blk.new w 28 #[.int .i64 0, .slice none 0 0]
  have hz0 : (w.alloc (.cells #[.int .i64 0, .slice none 0 0] 28)).heap.size = w.heap.size + 1 := by simp
  have HZ := Lib.hid hz0
  clear hz0
  have hba := areBases_ok n A 1 c [s] (w.alloc (.cells #[.int .i64 0, .slice none 0 0] 28)) (ha.keep hb0) (by omega) hn1 hn (allBlk_one hS)
  go_enter Tryz.func93, Tryz.ntmps93
  go_wp2_with fail
  refine hba.mono ?_
  rintro e w1 ⟨rfl, hb1⟩
  have hw1 := hb0.trans (hb1.mono hb0.size)
  have Y1 := Y.after hb1
  have hr1 := ha.keep hw1
  have hs1 : w.heap.size + 1 ≤ w1.heap.size := by have := hb1.size; have := HZ.out; omega
  have hm32 := hbk.2
  clear hba hb0 hb1 Y ha
  obtain ⟨ad, S, m, sc, rfl, cs, hm1, hm2, hri⟩ := hr1.get (k := 0) (by omega)
  have cs : w1.cell? ad = some (.slice S m sc) := cs
  have hri : RI w1 S m s := hri
  have hml := hri.len
  go_wp2
  go_loopw [6, 17] (fun bl qv wr => ∃ (k : Nat) (B : Option Addr) (bc : Nat), ((qv = .int .i64 0 ∧ k = 0) ∨ (qv = .int .i64 1 ∧ k = n)) ∧ bl = .slice B k bc ∧ OR wr w1.heap.size 36 2 B k bc (devK n s k) ∧ Below w1.heap.size w1 wr) (fun _ qv _ => 1 - (intOf qv).toNat)
  case atStart => exact ⟨0, none, 0, .inl ⟨rfl, rfl⟩, rfl, by simpa [devK] using OR.nil_ _ _ (by decide), Below.refl _ _⟩
  case round =>
    obtain ⟨k, B, bc, hqk, rfl, ho, hb⟩ := hrel
    rcases hqk with ⟨rfl, rfl⟩ | ⟨rfl, rfl⟩
    · have cs2 := below_cell hb cs
      have cs3 : wr.cell? (ad.add 0) = some (.slice S m sc) := cs2
      go_wp2
      clear cs2 cs3
      generalize hW : wr = wo at *
      clear hW
      have HO := Lib.hid ho
      have HB := Lib.hid hb
      clear ho hb
      go_loopw [6, 22] (fun bl kv wr => ∃ (k : Nat) (B : Option Addr) (bc : Nat), k ≤ n ∧ kv = .int .i64 k ∧ bl = .slice B k bc ∧ OR wr w1.heap.size 36 2 B k bc (devK n s k) ∧ Below w1.heap.size w1 wr) (fun _ kv _ => n - (intOf kv).toNat)
      case atStart => exact ⟨0, B, bc, Nat.zero_le _, rfl, rfl, HO.out, HB.out⟩
      case round =>
        obtain ⟨k, B, bc, hk, rfl, rfl, ho, hb⟩ := hrel
        by_cases hlt : k < n
        · have htr := translate_any n S m sc s k wr (hri.keep hb) (by omega) hn1 (by omega) (by omega) HBD.out
          have hbs := hb.size
          obtain ⟨vs, hov⟩ := ho
          have HOV := Lib.hid hov
          have HST := Lib.hid (devK_step n s k)
          clear hov
          go_wp2_with (first | (go_at_call 151; refine htr.mono ?_; rintro e w3 ⟨R, rn, rc, rfl, hor, hb3⟩; have hap := HOV.out.apart_new (v := (R, rn, rc)) (fun b hb => (hor.os.lt hb).1); have hov3 := Lib.hid (HOV.out.below hb3); have hrow := Lib.hid (hor.more hbs); have hbw := Lib.hid (hb.trans (hb3.mono hb.size)); have hbs3 := hb3.size) | (at_builtin; refine app_row _ rfl (.tmp 25) (.tmp 30) rfl w1.heap.size B k bc vs (devK n s k) rfl hov3.out (R, rn, rc) (transK n s (k : Int)) hrow.out hap _ rfl rfl (by omega) (by omega) ?_; intro A4 c4 w4 ho4 hg4 hn4; have hb4 := Lib.hid (below_own hbw.out hg4 (by omega) (fun b hb => (hov3.out.os.lt hb).1)); rw [← HST.out] at ho4))
          go_roundw
          case rel => exact ⟨k + 1, A4, c4, by omega, by go_num, rfl, ⟨_, ho4⟩, hb4.out⟩
          case measure => simp [intOf]; omega
        · obtain rfl : k = n := by omega
          go_wp2
          go_roundw
          case rel => exact ⟨k, B, bc, .inr ⟨by go_num, rfl⟩, rfl, ho, hb⟩
          case measure => simp [intOf]
    · have hz := hb.size
      have hso := sorted_any (k : Int) B k bc (devK k s k) wr ho.reads (by omega) hcl
      have Y2 := Y1.after hb
      have hlY := Y2.lt
      go_wp2_with fail
      refine hso.mono ?_
      rintro e w5 ⟨A5, c5, rfl, ho5, hb5⟩
      have Y5 := Y2.after hb5
      have hw5 := hw1.trans ((hb.trans (hb5.mono hb.size)).mono hw1.size)
      obtain ⟨y0, y1⟩ := Y5.cells2
      have f0 := Y5.frozen 0
      have f1 := Y5.frozen 1
      have YF := (Y5.set_ 0 (.int .i64 (k : Int))).set_ 1 (.slice A5 k c5)
      obtain ⟨z0, z1⟩ : ((w5.setCell ⟨w.heap.size, 0, none⟩ (.int .i64 (k : Int))).setCell ⟨w.heap.size, 1, none⟩ (.slice A5 k c5)).cell? ⟨w.heap.size, 0, none⟩ = some (.int .i64 (k : Int)) ∧ ((w5.setCell ⟨w.heap.size, 0, none⟩ (.int .i64 (k : Int))).setCell ⟨w.heap.size, 1, none⟩ (.slice A5 k c5)).cell? ⟨w.heap.size, 1, none⟩ = some (.slice A5 k c5) := ⟨YF.cell 0, YF.cell 1⟩
      go_wp2
      refine bodyPost_ret (v := .tuple #[.agg #[.int .i64 (k : Int), .slice A5 k c5], .int .i64 0]) (by simp [results, Tryz.results93, go_sem, z0, z1]) rfl ?_
      refine ⟨A5, c5, rfl, ?_, (hw5.setCell (p := ⟨w.heap.size, 0, none⟩) (by simp) _).setCell (p := ⟨w.heap.size, 1, none⟩) (by simp) _⟩
      exact OR.more ((ho5.setLow (p := ⟨w.heap.size, 0, none⟩) hlY _).setLow (p := ⟨w.heap.size, 1, none⟩) hlY _) (by omega)
end Go.Proofs.YtnmcmologlgccaaGreat
