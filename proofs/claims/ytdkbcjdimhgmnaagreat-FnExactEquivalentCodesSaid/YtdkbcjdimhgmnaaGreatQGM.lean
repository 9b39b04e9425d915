/- Rising lists by putting, and lists in order by insertion: the reference's side. No condition beyond those stated. -/
import Derived.Test.YtdkbcjdimhgmnaaGreatQGG
set_option linter.unusedVariables false
set_option linter.unusedSimpArgs false
namespace Go.Proofs.YtdkbcjdimhgmnaaGreat
open Go.RowKit
def PutTo {α : Type} (c : α → α → Int) (zs : List α) (x : α) (k : Nat) (L : List α) (d : Bool) : Prop :=
  (d = false ∧ L = zs.take k ∧ ∀ y, y ∈ zs.take k → c y x < 0) ∨ (d = true ∧ L ++ zs.drop k = putG c zs x)
section
variable {α : Type} {c : α → α → Int} {zs L : List α} {x : α} {k : Nat} {d : Bool}
theorem putTo_zero (c : α → α → Int) (zs : List α) (x : α) : PutTo c zs x 0 [] false := .inl ⟨rfl, by simp, fun y h => by simp at h⟩
theorem putTo_done {y : α} (h : PutTo c zs x k L true) (hk : zs[k]? = some y) : PutTo c zs x (k + 1) (L ++ [y]) true := by
  obtain ⟨hl, rfl⟩ := List.getElem?_eq_some_iff.1 hk
  rcases h with ⟨h, _⟩ | ⟨_, h⟩
  · cases h
  · refine .inr ⟨rfl, ?_⟩
    rw [List.append_assoc, List.singleton_append, ← List.drop_eq_getElem_cons hl]
    exact h
theorem putTo_less {y : α} (h : PutTo c zs x k L false) (hk : zs[k]? = some y) (hc : c y x < 0) : PutTo c zs x (k + 1) (L ++ [y]) false := by
  obtain ⟨hl, rfl⟩ := List.getElem?_eq_some_iff.1 hk
  rcases h with ⟨_, h1, h2⟩ | ⟨h, _⟩
  · refine .inl ⟨rfl, by rw [List.take_succ_eq_append_getElem hl, h1], fun z hz => ?_⟩
    rw [List.take_succ_eq_append_getElem hl] at hz
    rcases List.mem_append.1 hz with hz | hz
    · exact h2 z hz
    · rw [List.mem_singleton.1 hz]; exact hc
  · cases h
theorem putTo_at {y : α} (h : PutTo c zs x k L false) (hk : zs[k]? = some y) (hc : ¬ c y x < 0) : putG c zs x = L ++ ((if c y x = 0 then [] else [x]) ++ y :: zs.drop (k + 1)) := by
  obtain ⟨hl, rfl⟩ := List.getElem?_eq_some_iff.1 hk
  rcases h with ⟨_, h1, h2⟩ | ⟨h, _⟩
  · rw [putG_before (k := k) (by omega) h2, ← h1, List.drop_eq_getElem_cons hl, putG, if_neg hc]
    split <;> simp
  · cases h
theorem putTo_same {y : α} (h : PutTo c zs x k L false) (hk : zs[k]? = some y) (hc : c y x = 0) : PutTo c zs x (k + 1) (L ++ [y]) true := by
  refine .inr ⟨rfl, ?_⟩
  rw [putTo_at h hk (by omega), if_pos hc]
  simp
theorem putTo_more {y : α} (h : PutTo c zs x k L false) (hk : zs[k]? = some y) (hc : 0 < c y x) : PutTo c zs x (k + 1) (L ++ [x] ++ [y]) true := by
  refine .inr ⟨rfl, ?_⟩
  rw [putTo_at h hk (by omega), if_neg (by omega)]
  simp
theorem putTo_end1 (h : PutTo c zs x zs.length L true) : L = putG c zs x := by
  rcases h with ⟨h, _⟩ | ⟨_, h⟩
  · cases h
  · simpa using h
theorem putTo_end0 (h : PutTo c zs x zs.length L false) : L ++ [x] = putG c zs x := by
  rcases h with ⟨_, h1, h2⟩ | ⟨h, _⟩
  · rw [putG_before (k := zs.length) (Nat.le_refl _) h2, h1]
    simp [putG]
  · cases h
theorem putTo_len (h : PutTo c zs x k L d) (hk : k ≤ zs.length) : L.length ≤ k + 1 := by
  rcases h with ⟨_, h1, _⟩ | ⟨_, h⟩
  · rw [h1, List.length_take]; omega
  · have h2 := putG_len (c := c) zs x
    rw [← h] at h2
    simp at h2
    omega
end
set_option maxRecDepth 100000 in
set_option maxHeartbeats 2000000 in
theorem l00Put_any (A : Option Addr) (n c : Nat) (zs : List Int) (x : Int) (w : World) (ha : RI w A n zs) (hn : n ≤ 1099511627776) (hx : I64 x) :
    Calls Tryz.prog 182 #[.slice A n c, .int .i64 x] w (RetI w 2 (putG sgnI zs x)) := by
  have hla := Lib.hid ha.len
  have ho0 := OI.lit w w.heap.size 2 [] (Nat.le_refl _) (by simp) All64.nil_
  have hw0 := below_alloc w (.cells #[] 2)
  go_enter Tryz.func182, Tryz.ntmps182
  go_wp2
  go_loopw [5, 6, 7] (fun v f i wr => ∃ (k m : Nat) (A' : Option Addr) (c' : Nat) (L : List Int) (d : Bool), k ≤ n ∧ i = .int .i64 k ∧ v = .slice A' m c' ∧ f = .bool d ∧ OI wr w.heap.size 2 A' m c' L ∧ Below w.heap.size w wr ∧ PutTo sgnI zs x k L d) (fun _ _ i _ => n - (intOf i).toNat)
  case atStart => exact ⟨0, _, _, _, [], _, Nat.zero_le _, rfl, rfl, rfl, ho0, hw0, putTo_zero _ _ _⟩
  case round =>
    obtain ⟨k, m, A', c', L, d, hk, rfl, rfl, rfl, ho, hw, hp⟩ := hrel
    have hm : m ≤ k + 1 := by have := ho.len; have := putTo_len hp (by rw [hla.out]; exact hk); omega
    clear ho0 hw0
    by_cases hlt : k < n
    · obtain ⟨a, rfl, hca, hia⟩ := (ha.keep hw).get hlt
      have hz : zs[k]? = some (nth zs k) := nth_some (by rw [hla.out]; exact hlt)
      cases d with
      | true =>
        have HP := Lib.hid (putTo_done hp hz)
        clear hp hz
        go_wp2_with (at_builtin; refine app_int _ rfl (.tmp 35) (.tmp 40) rfl w.heap.size A' m c' L rfl ho (nth zs k) _ rfl (by simp) hia (by omega) hw.size ?_; intro A2 c2 w3 ho3 hg3 hn3)
        have hw3 := below_own hw hg3 hw.size (fun b hb => (ho.os.lt hb).1)
        clear ho hg3 hn3 hca
        go_roundw
        case rel => exact ⟨k + 1, _, _, _, _, true, by omega, by go_num, rfl, rfl, ho3, hw3, HP.out⟩
        case measure => simp [intOf]; omega
      | false =>
        by_cases h1 : nth zs k < x
        · have HP := Lib.hid (putTo_less hp hz (by rcases sgnI_cases (nth zs k) x with ⟨_, e⟩ | ⟨_, e⟩ | ⟨_, e⟩ <;> omega))
          clear hp hz
          go_wp2_with (at_builtin; refine app_int _ rfl (.tmp 35) (.tmp 40) rfl w.heap.size A' m c' L rfl ho (nth zs k) _ rfl (by simp) hia (by omega) hw.size ?_; intro A2 c2 w3 ho3 hg3 hn3)
          have hw3 := below_own hw hg3 hw.size (fun b hb => (ho.os.lt hb).1)
          clear ho hg3 hn3 hca
          go_roundw
          case rel => exact ⟨k + 1, _, _, _, _, false, by omega, by go_num, rfl, rfl, ho3, hw3, HP.out⟩
          case measure => simp [intOf]; omega
        · have h1' : x ≤ nth zs k := by omega
          by_cases h2 : nth zs k = x
          · have HP := Lib.hid (putTo_same hp hz (by rw [h2]; exact sgnI_ord.self x))
            have h3 : ¬ x < nth zs k := by omega
            clear hp hz h2
            go_wp2_with (at_builtin; refine app_int _ rfl (.tmp 35) (.tmp 40) rfl w.heap.size A' m c' L rfl ho (nth zs k) _ rfl (by simp) hia (by omega) hw.size ?_; intro A2 c2 w3 ho3 hg3 hn3)
            have hw3 := below_own hw hg3 hw.size (fun b hb => (ho.os.lt hb).1)
            clear ho hg3 hn3 hca
            go_roundw
            case rel => exact ⟨k + 1, _, _, _, _, true, by omega, by go_num, rfl, rfl, ho3, hw3, HP.out⟩
            case measure => simp [intOf]; omega
          · have h3 : x < nth zs k := by omega
            have HP := Lib.hid (putTo_more hp hz (by rcases sgnI_cases (nth zs k) x with ⟨_, e⟩ | ⟨_, e⟩ | ⟨_, e⟩ <;> omega))
            have hca0 := below_cell (below_alloc wr (.cells #[.int .i64 x] 2)) hca
            clear hp hz h2 h1 h1'
            go_wp2_with (first
              | (at_builtin; refine app_int _ rfl (.tmp 31) (.tmp 33) rfl w.heap.size A' m c' L rfl ho x _ rfl (by simp) hx (by omega) hw.size ?_; intro A2 c2 w3 ho3 hg3 hn3; have hw3 := below_own hw hg3 hw.size (fun b hb => (ho.os.lt hb).1); obtain ⟨a3, e3, hc3, _⟩ := (ha.keep hw3).get hlt; injection e3 with e3; subst e3; clear hca hca0)
              | (at_builtin; refine app_int _ rfl (.tmp 35) (.tmp 40) rfl w.heap.size A2 (m + 1) c2 (L ++ [x]) rfl ho3 (nth zs k) _ rfl (by simp) hia (by omega) hw3.size ?_; intro A4 c4 w4 ho4 hg4 hn4))
            have hw4 := below_own hw3 hg4 hw3.size (fun b hb => (ho3.os.lt hb).1)
            clear ho hg3 hn3 ho3 hg4 hn4 hc3
            go_roundw
            case rel => exact ⟨k + 1, _, _, _, _, true, by omega, by go_num, rfl, rfl, ho4, hw4, HP.out⟩
            case measure => simp [intOf]; omega
    · obtain rfl : k = n := by omega
      rw [← hla.out] at hp
      cases d with
      | true =>
        have HP := Lib.hid (putTo_end1 hp)
        clear hp
        go_wp2
        go_ret
        exact ⟨_, _, _, rfl, by rw [← HP.out]; exact ho, hw⟩
      | false =>
        have HP := Lib.hid (putTo_end0 hp)
        clear hp
        go_wp2_with (at_builtin; refine app_int _ rfl (.tmp 44) (.tmp 46) rfl w.heap.size A' m c' L rfl ho x _ rfl (by simp) hx (by omega) hw.size ?_; intro A2 c2 w3 ho3 hg3 hn3)
        have hw3 := below_own hw hg3 hw.size (fun b hb => (ho.os.lt hb).1)
        go_ret
        exact ⟨_, _, _, rfl, by rw [← HP.out]; exact ho3, hw3⟩
set_option maxRecDepth 100000 in
set_option maxHeartbeats 1000000 in
theorem l21Many_any (A : Option Addr) (n c : Nat) (zs : List Int) (w : World) (ha : RI w A n zs) (hn : n ≤ 1048576) :
    Calls Tryz.prog 263 #[.slice A n c] w (fun e w' => e = .returned (.int .i64 (manyP zs)) ∧ Below w.heap.size w w') := by
  have hla := Lib.hid ha.len
  have ho0 := OI.lit w w.heap.size 2 [] (Nat.le_refl _) (by simp) All64.nil_
  have hw0 := below_alloc w (.cells #[] 2)
  go_enter Tryz.func263, Tryz.ntmps263
  go_wp2
  go_loopw [3, 4] (fun v i wr => ∃ (k m : Nat) (A' : Option Addr) (c' : Nat), k ≤ n ∧ i = .int .i64 k ∧ v = .slice A' m c' ∧ OI wr w.heap.size 2 A' m c' (setG sgnI (zs.take k)) ∧ Below w.heap.size w wr) (fun _ i _ => n - (intOf i).toNat)
  case atStart => exact ⟨0, _, _, _, Nat.zero_le _, rfl, rfl, ho0, hw0⟩
  case round =>
    obtain ⟨k, m, A', c', hk, rfl, rfl, ho, hw⟩ := hrel
    have hm : m ≤ n := by have h1 := ho.len; have h2 := setG_len (c := sgnI) (zs.take k); rw [List.length_take, hla.out] at h2; omega
    clear ho0 hw0
    by_cases hlt : k < n
    · obtain ⟨a, rfl, hca, hia⟩ := (ha.keep hw).get hlt
      have HS := Lib.hid (show setG sgnI (zs.take (k + 1)) = putG sgnI (setG sgnI (zs.take k)) (nth zs k) by
        rw [List.take_succ_eq_append_getElem (by rw [hla.out]; exact hlt), setG_snoc, nth_get])
      go_wp2_with fail
      refine (l00Put_any A' m c' _ (nth zs k) wr ho.reads (by omega) hia).mono ?_
      rintro e w3 ⟨A3, n3, c3, rfl, ho3, hb3⟩
      have hw3 := below_then hw hb3
      have ho4 := ho3.more hw.size
      clear ho ho3 hb3 hca
      go_wp2
      go_roundw
      case rel => exact ⟨k + 1, _, _, _, by omega, by go_num, rfl, by rw [HS.out]; exact ho4, hw3⟩
      case measure => simp [intOf]; omega
    · obtain rfl : k = n := by omega
      have HS := Lib.hid (show setG sgnI (zs.take k) = setG sgnI zs by rw [List.take_of_length_le (by rw [hla.out]; exact Nat.le_refl _)])
      rw [HS.out] at ho
      have hl := Lib.hid ho.len
      go_wp2
      go_ret
      exact ⟨ret_int (by unfold manyP; rw [hl.out]), hw⟩
structure Rows (w : World) (vs : List Sl) (L : List (List Int)) : Prop where
  len : vs.length = L.length
  row : ∀ (j : Nat) (v : Sl) (z : List Int), vs[j]? = some v → L[j]? = some z → v.2.1 ≤ v.2.2 ∧ v.2.2 ≤ 9223372036854775807 ∧ RI w v.1 v.2.1 z
section
variable {w w' : World} {vs us : List Sl} {L M : List (List Int)}
theorem Rows.nil_ (w : World) : Rows w [] [] := ⟨rfl, fun _ _ _ h => by simp at h⟩
theorem Rows.keep (h : Rows w vs L) (hb : Below w.heap.size w w') : Rows w' vs L := ⟨h.len, fun j v z hv hz => let ⟨a, b, c⟩ := h.row j v z hv hz; ⟨a, b, c.keep hb⟩⟩
theorem Rows.snoc (h : Rows w vs L) {v : Sl} {z : List Int} (h1 : v.2.1 ≤ v.2.2) (h2 : v.2.2 ≤ 9223372036854775807) (h3 : RI w v.1 v.2.1 z) : Rows w (vs ++ [v]) (L ++ [z]) := by
  refine ⟨by simp [h.len], fun j u y hu hy => ?_⟩
  rw [List.getElem?_append] at hu hy
  rw [h.len] at hu
  split at hu
  · rename_i hj
    rw [if_pos hj] at hy
    exact h.row j u y hu hy
  · rename_i hj
    rw [if_neg hj] at hy
    have e : j - L.length = 0 := by have := (List.getElem?_eq_some_iff.1 hu).1; simp at this; omega
    rw [e] at hu hy
    simp at hu hy
    subst hu; subst hy
    exact ⟨h1, h2, h3⟩
theorem Rows.reads (h : Rows w vs L) {B : Nat} {e2 : TypeId} {A : Option Addr} {n c : Nat} (ho : OS w B e2 1 A n c (vs.map slv)) : RR w A n L := by
  have hl := ho.len
  simp at hl
  refine ⟨by rw [← h.len]; exact hl, fun j z hz => ?_⟩
  have hj : j < vs.length := by rw [h.len]; exact (List.getElem?_eq_some_iff.1 hz).1
  have hv := List.getElem?_eq_getElem hj
  obtain ⟨ad, ha, hc⟩ := ho.cells j (slv vs[j]) (by rw [List.getElem?_map, hv]; rfl)
  obtain ⟨h1, h2, h3⟩ := h.row j _ z hv hz
  exact ⟨ad, _, ha, hc, _, _, _, rfl, h1, h2, h3⟩
theorem row_some {zss : List (List Int)} {k : Nat} (h : k < zss.length) : zss[k]? = some (row zss k) := by rw [row_get h]; exact List.getElem?_eq_getElem h
end
section
variable {ops : Array Oper} {rest : List Oper} {o : Oper} {a : Act} {Q : Exit → Act → World → Prop}
theorem app_sl (w : World) (hgd : o.guard = none) (s x : Operand) (ho : o.op = .call { callee := .builtin .append, args := #[s, x], argTypes := #[25, 25] })
    (B : Nat) (A : Option Addr) (n c : Nat) (vs : List Sl) (hs : a.eval s = .slice A n c) (hown : OS w B 22 1 A n c (vs.map slv)) (v : Sl)
    (g : Nat) (hx : a.eval x = .slice (some ⟨g, 0, none⟩) 1 1) (hgx : g = w.heap.size) (hbig : n + 1 ≤ 2199023255552) (hB : B ≤ w.heap.size)
    (h : ∀ A' c' w', OS w' B 22 1 A' (n + 1) c' ((vs ++ [v]).map slv) → w.grownBy w' (blk A) → (blk A' = blk A ∨ ∃ k, blk A' = some k ∧ w.heap.size ≤ k) → wpList Tryz.prog ops Q rest (a.put o.dst (.slice A' (n + 1) c')) w') :
    wpList Tryz.prog ops Q (o :: rest) a (w.alloc (.cells #[.slice v.1 v.2.1 v.2.2] 22)) :=
  wpList_app1' w hgd s x 25 ho 22 (.slice none 0 0) 24 Tryz.underlying25 ints_info rfl (by omega) B A n c (vs.map slv) hs hown (.slice v.1 v.2.1 v.2.2) g hx hgx rfl hbig hB
    fun A' c' w' h1 h2 h3 => h A' c' w' (by simpa [slv] using h1) h2 h3
end
set_option maxRecDepth 100000 in
set_option maxHeartbeats 2000000 in
theorem l21PutList_any (A : Option Addr) (n c : Nat) (zss : List (List Int)) (X : Option Addr) (p q : Nat) (x : List Int) (w : World) (ha : RR w A n zss) (hn : n ≤ 1048576) (hx : RI w X p x) (hp : p ≤ q) (hq : q ≤ 9223372036854775807) :
    Calls Tryz.prog 279 #[.slice A n c, .slice X p q] w (fun e w' => ∃ A' n' c', e = .returned (.slice A' n' c') ∧ RR w' A' n' (putG cmpL zss x) ∧ Below w.heap.size w w') := by
  have hla := Lib.hid ha.len
  have ho0 : OS (w.alloc (.cells #[] 22)) w.heap.size 22 1 (some ⟨w.heap.size, 0, none⟩) 0 0 (([] : List Sl).map slv) := OS.lit w w.heap.size 22 1 0 #[] (Nat.le_refl _) rfl (by omega)
  have hw0 := below_alloc w (.cells #[] 22)
  go_enter Tryz.func279, Tryz.ntmps279
  go_wp2
  go_loopw [5, 6, 7] (fun v f i wr => ∃ (k m : Nat) (A' : Option Addr) (c' : Nat) (vs : List Sl) (L : List (List Int)) (d : Bool), k ≤ n ∧ i = .int .i64 k ∧ v = .slice A' m c' ∧ f = .bool d ∧ OS wr w.heap.size 22 1 A' m c' (vs.map slv) ∧ Rows w vs L ∧ Below w.heap.size w wr ∧ PutTo cmpL zss x k L d) (fun _ _ i _ => n - (intOf i).toNat)
  case atStart => exact ⟨0, _, _, _, [], [], _, Nat.zero_le _, rfl, rfl, rfl, ho0, Rows.nil_ _, hw0, putTo_zero _ _ _⟩
  case round =>
    obtain ⟨k, m, A', c', vs, L, d, hk, rfl, rfl, rfl, ho, hr, hw, hpt⟩ := hrel
    have hm : m ≤ k + 1 := by have h1 := ho.len; have h2 := hr.len; have h3 := putTo_len hpt (by rw [hla.out]; exact hk); simp at h1; omega
    clear ho0 hw0
    by_cases hlt : k < n
    · obtain ⟨a, Y, p1, q1, rfl, hca, hp1, hq1, hri⟩ := ha.get hlt
      have HCA := Lib.hid hca
      replace hca := below_cell hw hca
      have hz : zss[k]? = some (row zss k) := row_some (by rw [hla.out]; exact hlt)
      generalize row zss k = z at *
      have hcmp := compareLists_any Y X p1 p q1 q z x wr (hri.keep hw) (hx.keep hw) (by omega) (by omega)
      have hbd := cmpL_bd z x
      cases d with
      | true =>
        have HP := Lib.hid (putTo_done hpt hz)
        have HR := Lib.hid (hr.snoc (v := (Y, p1, q1)) hp1 hq1 hri)
        clear hpt hz
        generalize cmpL z x = s at *
        go_wp2_with fail
        refine hcmp.mono ?_
        rintro e w1 ⟨rfl, hd1⟩
        have hw1 := hw.trans (hd1.below.mono hw.size)
        have ho1 := ho.below hd1.below
        have hca1 := below_cell hd1.below hca
        clear ho hca hcmp
        go_wp2_with (at_builtin; refine app_sl _ rfl (.tmp 34) (.tmp 39) rfl w.heap.size A' m c' vs rfl ho1 (Y, p1, q1) _ rfl (by simp) (by omega) hw1.size ?_; intro A2 c2 w3 ho3 hg3 hn3)
        have hw3 := below_own hw1 hg3 hw1.size (fun b hb => (ho1.lt hb).1)
        clear ho1 hg3 hn3 hca1
        go_roundw
        case rel => exact ⟨k + 1, _, _, _, _, _, true, by omega, by go_num, rfl, rfl, ho3, HR.out, hw3, HP.out⟩
        case measure => simp [intOf]; omega
      | false =>
        have HR := Lib.hid (hr.snoc (v := (Y, p1, q1)) hp1 hq1 hri)
        by_cases h1 : cmpL z x < 0
        · have HP := Lib.hid (putTo_less hpt hz h1)
          clear hpt hz
          generalize cmpL z x = s at *
          have h1' : decide (s ≥ 0) = false := by simpa using h1
          go_wp2_with fail
          refine hcmp.mono ?_
          rintro e w1 ⟨rfl, hd1⟩
          have hw1 := hw.trans (hd1.below.mono hw.size)
          have ho1 := ho.below hd1.below
          have hca1 := below_cell hd1.below hca
          clear ho hca hcmp
          go_wp2_with (at_builtin; refine app_sl _ rfl (.tmp 34) (.tmp 39) rfl w.heap.size A' m c' vs rfl ho1 (Y, p1, q1) _ rfl (by simp) (by omega) hw1.size ?_; intro A2 c2 w3 ho3 hg3 hn3)
          have hw3 := below_own hw1 hg3 hw1.size (fun b hb => (ho1.lt hb).1)
          clear ho1 hg3 hn3 hca1
          go_roundw
          case rel => exact ⟨k + 1, _, _, _, _, _, false, by omega, by go_num, rfl, rfl, ho3, HR.out, hw3, HP.out⟩
          case measure => simp [intOf]; omega
        · by_cases h2 : cmpL z x = 0
          · have HP := Lib.hid (putTo_same hpt hz h2)
            clear hpt hz
            rw [h2] at hcmp
            clear h1 h2 hbd
            go_wp2_with fail
            refine hcmp.mono ?_
            rintro e w1 ⟨rfl, hd1⟩
            have hw1 := hw.trans (hd1.below.mono hw.size)
            have ho1 := ho.below hd1.below
            have hca1 := below_cell hd1.below hca
            clear ho hca hcmp
            go_wp2_with (at_builtin; refine app_sl _ rfl (.tmp 34) (.tmp 39) rfl w.heap.size A' m c' vs rfl ho1 (Y, p1, q1) _ rfl (by simp) (by omega) hw1.size ?_; intro A2 c2 w3 ho3 hg3 hn3)
            have hw3 := below_own hw1 hg3 hw1.size (fun b hb => (ho1.lt hb).1)
            clear ho1 hg3 hn3 hca1
            go_roundw
            case rel => exact ⟨k + 1, _, _, _, _, _, true, by omega, by go_num, rfl, rfl, ho3, HR.out, hw3, HP.out⟩
            case measure => simp [intOf]; omega
          · have e1 : cmpL z x = 1 := by omega
            have HP := Lib.hid (putTo_more hpt hz (by omega))
            have HR2 := Lib.hid ((hr.snoc (v := (X, p, q)) hp hq hx).snoc (v := (Y, p1, q1)) hp1 hq1 hri)
            clear hpt hz
            rw [e1] at hcmp
            clear h1 h2 hbd e1 HR
            go_wp2_with fail
            refine hcmp.mono ?_
            rintro e w1 ⟨rfl, hd1⟩
            have hw1 := hw.trans (hd1.below.mono hw.size)
            have ho1 := ho.below hd1.below
            have hca1 := below_cell hd1.below hca
            clear ho hca hcmp
            go_wp2_with (first
              | (at_builtin; refine app_sl _ rfl (.tmp 30) (.tmp 32) rfl w.heap.size A' m c' vs rfl ho1 (X, p, q) _ rfl (by simp) (by omega) hw1.size ?_; intro A2 c2 w3 ho3 hg3 hn3; have hw3 := below_own hw1 hg3 hw1.size (fun b hb => (ho1.lt hb).1); have hc3 := below_cell hw3 HCA.out; clear hca1)
              | (at_builtin; refine app_sl _ rfl (.tmp 34) (.tmp 39) rfl w.heap.size A2 (m + 1) c2 (vs ++ [(X, p, q)]) rfl ho3 (Y, p1, q1) _ rfl (by simp) (by omega) hw3.size ?_; intro A4 c4 w4 ho4 hg4 hn4))
            have hw4 := below_own hw3 hg4 hw3.size (fun b hb => (ho3.lt hb).1)
            clear ho1 hg3 hn3 ho3 hg4 hn4 hc3
            go_roundw
            case rel => exact ⟨k + 1, _, _, _, _, _, true, by omega, by go_num, rfl, rfl, ho4, HR2.out, hw4, HP.out⟩
            case measure => simp [intOf]; omega
    · obtain rfl : k = n := by omega
      rw [← hla.out] at hpt
      cases d with
      | true =>
        have HP := Lib.hid (putTo_end1 hpt)
        clear hpt
        go_wp2
        go_ret
        exact ⟨_, _, _, rfl, by rw [← HP.out]; exact (hr.keep hw).reads ho, hw⟩
      | false =>
        have HP := Lib.hid (putTo_end0 hpt)
        have HR := Lib.hid (hr.snoc (v := (X, p, q)) hp hq hx)
        clear hpt
        go_wp2_with (at_builtin; refine app_sl _ rfl (.tmp 43) (.tmp 45) rfl w.heap.size A' m c' vs rfl ho (X, p, q) _ rfl (by simp) (by omega) hw.size ?_; intro A2 c2 w3 ho3 hg3 hn3)
        have hw3 := below_own hw hg3 hw.size (fun b hb => (ho.lt hb).1)
        go_ret
        exact ⟨_, _, _, rfl, by rw [← HP.out]; exact (HR.out.keep hw3).reads ho3, hw3⟩
/-! insertion -/
def insAt (L : List Int) (j : Nat) (x : Int) : List Int := L.take j ++ x :: L.drop j
theorem insAt_at {L : List Int} {j : Nat} {x : Int} (h : j ≤ L.length) : nth (insAt L j x) j = x := by
  have hl : (L.take j).length = j := by rw [List.length_take]; omega
  unfold insAt nth
  rw [List.getD, List.getElem?_append_right (by omega), hl, Nat.sub_self]
  rfl
theorem insAt_lt {L : List Int} {j i : Nat} {x : Int} (h : j ≤ L.length) (hi : i < j) : nth (insAt L j x) i = nth L i := by
  have hl : (L.take j).length = j := by rw [List.length_take]; omega
  unfold insAt nth
  rw [List.getD, List.getElem?_append_left (by omega), List.getElem?_take, if_pos hi]
  rfl
theorem insAt_last (L : List Int) (x : Int) : insAt L L.length x = L ++ [x] := by simp [insAt]
theorem insAt_swap {L : List Int} {j : Nat} {x : Int} (h : j + 1 ≤ L.length) : ((insAt L (j + 1) x).set (j + 1) (nth L j)).set j x = insAt L j x := by
  have hl : (L.take j).length = j := by rw [List.length_take]; omega
  unfold insAt
  rw [List.take_succ_eq_append_getElem (by omega), List.append_assoc, List.set_append_right _ _ (by omega), hl, List.set_append_right _ _ (by omega), hl, List.drop_eq_getElem_cons (i := j) (by omega), nth_get (by omega)]
  simp
theorem insAt_perm (L : List Int) (j : Nat) (x : Int) : (insAt L j x).Perm (L ++ [x]) := by
  unfold insAt
  refine List.Perm.trans List.perm_middle ?_
  rw [List.take_append_drop]
  exact (List.perm_append_comm (l₁ := [x]) (l₂ := L))
theorem insAt_sorted {L : List Int} {j : Nat} {x : Int} (hs : L.Pairwise fun a b => a ≤ b) (h1 : ∀ y ∈ L.take j, y ≤ x) (h2 : ∀ y ∈ L.drop j, x ≤ y) : (insAt L j x).Pairwise fun a b => a ≤ b := by
  unfold insAt
  have hs' := hs
  rw [← List.take_append_drop j L] at hs'
  obtain ⟨a1, a2, a3⟩ := List.pairwise_append.1 hs'
  refine List.pairwise_append.2 ⟨a1, List.pairwise_cons.2 ⟨h2, a2⟩, fun a ha b hb => ?_⟩
  rcases List.mem_cons.1 hb with rfl | hb
  · exact h1 a ha
  · exact a3 a ha b hb
theorem take_le {L : List Int} {j : Nat} {x : Int} (hs : L.Pairwise fun a b => a ≤ b) (hj : j + 1 ≤ L.length) (h : nth L j ≤ x) : ∀ y ∈ L.take (j + 1), y ≤ x := fun y hy => by
  rw [List.take_succ_eq_append_getElem (by omega)] at hy
  rcases List.mem_append.1 hy with hy | hy
  · obtain ⟨i, hi, rfl⟩ := List.mem_iff_getElem.1 hy
    have hij : i < j := by rw [List.length_take] at hi; omega
    have := List.pairwise_iff_getElem.1 hs i j (by omega) (by omega) hij
    rw [List.getElem_take]
    rw [nth_get (by omega)] at h
    omega
  · rw [List.mem_singleton.1 hy, ← nth_get (by omega)]
    exact h
def Sunk (L : List Int) (j : Nat) (x : Int) : Prop := ∀ y ∈ L.drop j, x ≤ y
theorem sunk_all (L : List Int) (x : Int) : Sunk L L.length x := fun y hy => by simp at hy
theorem sunk_step {L : List Int} {j : Nat} {x : Int} (h : Sunk L (j + 1) x) (hj : j + 1 ≤ L.length) (hx : x < nth L j) : Sunk L j x := fun y hy => by
  rw [List.drop_eq_getElem_cons (by omega)] at hy
  rcases List.mem_cons.1 hy with rfl | hy
  · rw [nth_get (by omega)] at hx; omega
  · exact h y hy
theorem sunk_end {zs : List Int} {k j : Nat} (hk : k < zs.length) (h : Sunk (srt (zs.take k)) j (nth zs k)) (h1 : j = 0 ∨ ∃ i, j = i + 1 ∧ i + 1 ≤ (srt (zs.take k)).length ∧ nth (srt (zs.take k)) i ≤ nth zs k) :
    insAt (srt (zs.take k)) j (nth zs k) = srt (zs.take (k + 1)) := by
  refine srt_unique ?_ (insAt_sorted (srt_le _) ?_ h)
  · refine (insAt_perm _ _ _).trans ?_
    rw [List.take_succ_eq_append_getElem hk, nth_get hk]
    exact (srt_perm _).append_right _
  · rcases h1 with rfl | ⟨i, rfl, hi, hle⟩
    · intro y hy; simp at hy
    · exact take_le (srt_le _) hi hle
set_option maxRecDepth 100000 in
set_option maxHeartbeats 2000000 in
theorem l21Sorted_any (A : Option Addr) (n c : Nat) (zs : List Int) (w : World) (ha : RI w A n zs) (hn : n ≤ 1048576) :
    Calls Tryz.prog 278 #[.slice A n c] w (RetI w 2 (srt zs)) := by
  have hla := Lib.hid ha.len
  have ho0 := OI.lit w w.heap.size 2 [] (Nat.le_refl _) (by simp) All64.nil_
  have hw0 := below_alloc w (.cells #[] 2)
  go_enter Tryz.func278, Tryz.ntmps278
  go_wp2
  go_loopw [3, 4] (fun v i wr => ∃ (k : Nat) (A' : Option Addr) (c' : Nat), k ≤ n ∧ i = .int .i64 k ∧ v = .slice A' k c' ∧ OI wr w.heap.size 2 A' k c' (srt (zs.take k)) ∧ Below w.heap.size w wr) (fun _ i _ => n - (intOf i).toNat)
  case atStart => exact ⟨0, _, _, Nat.zero_le _, rfl, rfl, by rw [List.take_zero, show srt [] = [] by simp [srt]]; exact ho0, hw0⟩
  case round =>
    obtain ⟨k, A', c', hk, rfl, rfl, ho, hw⟩ := hrel
    clear ho0 hw0
    by_cases hlt : k < n
    · obtain ⟨a, rfl, hca, hia⟩ := (ha.keep hw).get hlt
      have HK := Lib.hid (show (srt (zs.take k)).length = k by rw [srt_len, List.length_take, hla.out]; omega)
      have HE := Lib.hid (fun (j : Nat) => sunk_end (zs := zs) (k := k) (j := j) (by rw [hla.out]; exact hlt))
      have H0 := Lib.hid (sunk_all (srt (zs.take k)) (nth zs k))
      generalize hL : srt (zs.take k) = L at *
      have HL := Lib.hid hL; clear hL
      generalize nth zs k = x at *
      go_wp2_with (at_builtin; refine app_int _ rfl (.tmp 16) (.tmp 21) rfl w.heap.size A' k c' L rfl ho x _ rfl (by simp) hia (by omega) hw.size ?_; intro A2 c2 w3 ho3 hg3 hn3)
      have hw3 := below_own hw hg3 hw.size (fun b hb => (ho.os.lt hb).1)
      have ho4 : OI w3 w.heap.size 2 A2 (k + 1) c2 (insAt L k x) := by
        have e := insAt_last L x
        rw [HK.out] at e
        rw [e]; exact ho3
      have h0 : Sunk L k x := by have := H0.out; rwa [HK.out] at this
      have HS0 := Lib.hid h0
      have hcap := ho3.os.cap
      clear ho hg3 hn3 hca ho3 h0
      obtain ⟨wo, rfl⟩ : ∃ wo : World, wo = w3 := ⟨_, rfl⟩
      go_loopw [5, 6] (fun q _ w2 => ∃ (j : Nat), j ≤ k ∧ q = .int .i64 j ∧ OI w2 w.heap.size 2 A2 (k + 1) c2 (insAt L j x) ∧ Below w.heap.size w w2 ∧ Sunk L j x) (fun q _ _ => (intOf q).toNat)
      case atStart => exact ⟨k, Nat.le_refl _, rfl, ho4, hw3, HS0.out⟩
      case round =>
        clear ho4 hw3
        obtain ⟨j, hj, rfl, ho2, hw2, hs⟩ := hrel
        rcases Nat.eq_zero_or_pos j with rfl | hpos
        · have HR := Lib.hid (HE.out 0 hs (.inl rfl))
          clear hs
          go_wp2
          go_quiet (fail)
          go_wp2
          go_roundw
          case rel => exact ⟨k + 1, _, _, by omega, by go_num, rfl, by rw [← HR.out]; exact ho2.drewN _, hw2.trans (below_drewn' _ _ _)⟩
          case measure => simp [intOf]; omega
        · obtain ⟨i, rfl⟩ : ∃ i, j = i + 1 := ⟨j - 1, by omega⟩
          obtain ⟨g, hg, hc1, hf1, hi1⟩ := ho2.cell (k := i + 1) (by omega)
          obtain ⟨g', hg', hc0, hf0, hi0⟩ := ho2.cell (k := i) (by omega)
          rw [hg] at hg'
          injection hg' with hg'
          injection hg' with hg'
          subst hg'
          subst hg
          rw [insAt_at (by rw [HK.out]; exact hj)] at hc1
          rw [insAt_lt (by rw [HK.out]; exact hj) (by omega)] at hc0 hi0
          have hgB := (ho2.os.lt (k := g) rfl)
          have e1 : ((i + 1 : Nat) : Int) - 1 = (i : Int) := by omega
          by_cases hx : x < nth L i
          · have HS := Lib.hid (sunk_step hs (by rw [HK.out]; exact hj) hx)
            have HI := Lib.hid (insAt_swap (L := L) (j := i) (x := x) (by rw [HK.out]; exact hj))
            have hx' : nth L i > x := hx
            have HO := Lib.hid (fun q => by have := ((ho2.drewN q).set (i + 1) hi0).set i hia; rwa [HI.out] at this : ∀ q, OI (((wr.drewN q).setCell ⟨g, i + 1, none⟩ (.int .i64 (nth L i))).setCell ⟨g, i, none⟩ (.int .i64 x)) w.heap.size 2 (some ⟨g, 0, none⟩) (k + 1) c2 (insAt L i x))
            have HB := Lib.hid (fun q => ((hw2.trans (below_drewn' _ _ q)).setCell hgB.1 _).setCell hgB.1 _ : ∀ q, Below w.heap.size w (((wr.drewN q).setCell ⟨g, i + 1, none⟩ (.int .i64 (nth L i))).setCell ⟨g, i, none⟩ (.int .i64 x)))
            clear hs ho2
            go_wp2
            go_quiet (fail)
            go_wp2
            go_roundw
            case rel => exact ⟨i, by omega, rfl, HO.out _, HB.out _, HS.out⟩
            case measure => simp [intOf]
          · have HR := Lib.hid (HE.out (i + 1) hs (.inr ⟨i, rfl, by rw [HK.out]; exact hj, by omega⟩))
            have hx' : decide (nth L i > x) = false := by simpa using hx
            have hp : (0 : Int) < ((i + 1 : Nat) : Int) := by omega
            clear hs
            go_wp2
            go_quiet (fail)
            go_wp2
            go_roundw
            case rel => exact ⟨k + 1, _, _, by omega, by go_num, rfl, by rw [← HR.out]; exact ho2.drewN _, hw2.trans (below_drewn' _ _ _)⟩
            case measure => simp [intOf]; omega
    · obtain rfl : k = n := by omega
      have HS := Lib.hid (show srt (zs.take k) = srt zs by rw [List.take_of_length_le (by rw [hla.out]; exact Nat.le_refl _)])
      rw [HS.out] at ho
      go_wp2
      go_ret
      exact ⟨_, _, _, rfl, ho, hw⟩
def vL (cells : List Int) : List Int := if tgtP cells < 0 then [] else vertsP cells (tgtP cells)
theorem vL_none {cells : List Int} (h : ∀ c : Nat, c < cells.length → cells.count (c : Int) < 2) : vL cells = [] := by rw [vL, if_pos (by rw [tgtP_none h]; omega)]
theorem vL_some {cells : List Int} {c : Nat} (hc : c < cells.length) (h2 : 2 ≤ cells.count (c : Int)) (hl : ∀ d : Nat, d < c → cells.count (d : Int) < 2) : vL cells = vertsP cells c := by
  rw [vL, tgtP_val hc h2 hl, if_neg (by omega)]
def fewTo (cells : List Int) (k : Nat) : Prop := ∀ d : Nat, d < k → cells.count (d : Int) < 2
theorem fewTo_zero (cells : List Int) : fewTo cells 0 := fun _ h => absurd h (by omega)
theorem fewTo_step {cells : List Int} {k : Nat} (h : fewTo cells k) (hk : ¬ 1 < (vertsP cells (k : Int)).length) : fewTo cells (k + 1) := fun d hd => by
  rcases Nat.lt_succ_iff_lt_or_eq.1 hd with h' | h'
  · exact h d h'
  · rw [h', ← vertsP_count]; omega
theorem vT_more (cells : List Int) (t : Int) (k : Nat) : vT cells t (k + 1) = if nth cells k = t then vT cells t k ++ [(k : Int)] else vT cells t k := vT_step cells t k
set_option maxRecDepth 100000 in
set_option maxHeartbeats 1000000 in
theorem target_any (A : Option Addr) (n c : Nat) (cells : List Int) (w : World) (ha : RI w A n cells) (hn : n ≤ 1048576) :
    Calls Tryz.prog 232 #[.slice A n c] w (RetI w 2 (vL cells)) := by
  have hla := Lib.hid ha.len
  go_enter Tryz.func232, Tryz.ntmps232
  go_wp2
  go_loopw [9] (fun i wr => ∃ k : Nat, k ≤ n ∧ i = .int .i64 k ∧ Below w.heap.size w wr ∧ fewTo cells k) (fun i _ => n - (intOf i).toNat)
  case atStart => exact ⟨0, Nat.zero_le _, rfl, Below.refl _ _, fewTo_zero _⟩
  case round =>
    obtain ⟨k, hk, rfl, hw, hf⟩ := hrel
    by_cases hlt : k < n
    · have HF := Lib.hid hf; clear hf
      have hsz := hw.size
      go_wp2
      obtain ⟨wo, rfl⟩ : ∃ wo : World, wo = wr := ⟨_, rfl⟩
      go_loopw [4, 14] (fun v i w2 => ∃ (j m : Nat) (A' : Option Addr) (c' : Nat), j ≤ n ∧ i = .int .i64 j ∧ v = .slice A' m c' ∧ OI w2 w.heap.size 2 A' m c' (vT cells k j) ∧ Below w.heap.size w w2) (fun _ i _ => n - (intOf i).toNat)
      case atStart => exact ⟨0, 0, _, _, Nat.zero_le _, rfl, rfl, OI.nil_ _ _ _, hw⟩
      case round =>
        obtain ⟨j, m, A', c', hj, rfl, rfl, ho, hw2⟩ := hrel
        by_cases hjl : j < n
        · obtain ⟨a, rfl, hca, hia⟩ := (ha.keep hw2).get hjl
          have hm : m ≤ n := by have := ho.len; have := vT_len cells k j; omega
          by_cases he : nth cells j = k
          · have he' : (nth cells j == (k : Int)) = true := by simp [he]
            have HV := Lib.hid (show vT cells k (j + 1) = vT cells k j ++ [(j : Int)] by rw [vT_more, if_pos he])
            rw [he] at hca
            clear he he' hia
            have hkk : ((k : Int) == (k : Int)) = true := by simp
            go_wp2_with (at_builtin; refine app_int _ rfl _ _ rfl w.heap.size A' m c' (vT cells k j) rfl ho (j : Int) _ rfl (by simp) ⟨by omega, by omega⟩ (by omega) hw2.size ?_; intro A2 c2 w3 ho3 hg3 hn3)
            have hw3 := below_own hw2 hg3 hw2.size (fun b hb => (ho.os.lt hb).1)
            clear ho hg3 hn3 hca
            go_roundw
            case rel => exact ⟨j + 1, _, _, _, by omega, by go_num, rfl, by rw [HV.out]; exact ho3, hw3⟩
            case measure => simp [intOf]; omega
          · have he' : (nth cells j == (k : Int)) = false := by simp [he]
            have HV := Lib.hid (show vT cells k (j + 1) = vT cells k j by rw [vT_more, if_neg he])
            clear he
            go_wp2
            go_roundw
            case rel => exact ⟨j + 1, _, _, _, by omega, by go_num, rfl, by rw [HV.out]; exact ho, hw2⟩
            case measure => simp [intOf]; omega
        · have HJ := Lib.hid (show vT cells k j = vertsP cells k by rw [show j = cells.length by rw [hla.out]; omega]; exact vT_all cells k)
          rw [HJ.out] at ho
          have hml := Lib.hid ho.len
          by_cases h1 : 1 < m
          · have HR := Lib.hid (show vL cells = vertsP cells k from vL_some (by rw [hla.out]; exact hlt) (by rw [← vertsP_count, hml.out]; omega) HF.out)
            clear hlt hk hj
            have hm9 : (m : Int) > 1 := by omega
            go_wp2
            go_ret
            exact ⟨_, _, _, rfl, by rw [HR.out]; exact ho, hw2⟩
          · have HN := Lib.hid (fewTo_step HF.out (by rw [hml.out]; exact h1))
            go_wp2
            go_roundw
            case rel => exact ⟨k + 1, by omega, by go_num, hw2, HN.out⟩
            case measure => simp [intOf]; omega
    · have HR := Lib.hid (show vL cells = [] from vL_none (by rw [hla.out]; intro d hd; exact hf d (by omega)))
      clear hf
      go_wp2
      go_ret
      exact ⟨none, 0, 0, rfl, by rw [HR.out]; exact OI.nil_ _ _ _, hw⟩
def pairTo (u v a b : Nat) : Prop := b < a ∧ (a < u ∨ (a = u ∧ b < v))
def TgtTo (cells : List Int) (u v : Nat) (out : Int) : Prop :=
  (out = -1 ∧ ∀ a b, pairTo u v a b → nth cells a ≠ nth cells b) ∨
  (0 ≤ out ∧ (∃ a b, pairTo u v a b ∧ nth cells a = nth cells b ∧ nth cells a = out) ∧ ∀ a b, pairTo u v a b → nth cells a = nth cells b → out ≤ nth cells a)
theorem tgtTo_zero (cells : List Int) : TgtTo cells 0 0 (-1) := .inl ⟨rfl, fun a b h => by unfold pairTo at h; omega⟩
theorem pairTo_step {u v a b : Nat} (h : pairTo u (v + 1) a b) : pairTo u v a b ∨ (a = u ∧ b = v) := by unfold pairTo at *; omega
theorem pairTo_more {u v a b : Nat} (h : pairTo u v a b) : pairTo u (v + 1) a b := by unfold pairTo at *; omega
theorem tgtTo_new {cells : List Int} {u v : Nat} {out : Int} (h : TgtTo cells u v out) (hv : v < u) (he : nth cells u = nth cells v) (h0 : 0 ≤ nth cells u) (hc : out < 0 ∨ nth cells u < out) : TgtTo cells u (v + 1) (nth cells u) := by
  refine .inr ⟨h0, ⟨u, v, by unfold pairTo; omega, he, rfl⟩, fun a b hp hq => ?_⟩
  rcases pairTo_step hp with h1 | ⟨rfl, rfl⟩
  · rcases h with ⟨_, h2⟩ | ⟨h2, _, h3⟩
    · exact absurd hq (h2 a b h1)
    · have := h3 a b h1 hq
      omega
  · omega
theorem tgtTo_old {cells : List Int} {u v : Nat} {out : Int} (h : TgtTo cells u v out) (hc : nth cells u ≠ nth cells v ∨ (0 ≤ out ∧ out ≤ nth cells u)) : TgtTo cells u (v + 1) out := by
  rcases h with ⟨h1, h2⟩ | ⟨h1, ⟨a, b, h2, h3⟩, h4⟩
  · refine .inl ⟨h1, fun a b hp => ?_⟩
    rcases pairTo_step hp with h3 | ⟨rfl, rfl⟩
    · exact h2 a b h3
    · rcases hc with hc | hc
      · exact hc
      · omega
  · refine .inr ⟨h1, ⟨a, b, pairTo_more h2, h3⟩, fun a b hp hq => ?_⟩
    rcases pairTo_step hp with h5 | ⟨rfl, rfl⟩
    · exact h4 a b h5 hq
    · rcases hc with hc | hc
      · exact absurd hq hc
      · exact hc.2
theorem tgtTo_next {cells : List Int} {u : Nat} {out : Int} (h : TgtTo cells u u out) : TgtTo cells (u + 1) 0 out := by
  have e : ∀ a b, pairTo (u + 1) 0 a b ↔ pairTo u u a b := fun a b => by unfold pairTo; omega
  unfold TgtTo at *
  simp only [e]
  exact h
theorem tgtTo_range {cells : List Int} {u v : Nat} {out : Int} (h : TgtTo cells u v out) : -1 ≤ out := by
  rcases h with ⟨h1, _⟩ | ⟨h1, _⟩ <;> omega
theorem tgtTo_end {n : Nat} {cells : List Int} {out : Int} (hc : Cells n cells) (h : TgtTo cells n 0 out) : tgtP cells = out := by
  rcases h with ⟨h1, h2⟩ | ⟨h1, ⟨a, b, h2, h3, h5⟩, h4⟩
  · rw [h1]
    refine tgtP_none fun c _ => ?_
    rcases Nat.lt_or_ge (cells.count (c : Int)) 2 with h3 | h3
    · exact h3
    · exfalso
      obtain ⟨u, v, h4, h5, h6, h7⟩ := two_count h3
      exact h2 u v (by unfold pairTo; rw [hc.len] at h5; omega) (h6.trans h7.symm)
  · have ha : a < n := by unfold pairTo at h2; omega
    have hb := hc.bd a ha
    have e : out = (out.toNat : Int) := by omega
    rw [e]
    refine tgtP_val (by rw [hc.len]; omega) ?_ fun d hd => ?_
    · rw [← e, ← h5]
      exact count_two (by unfold pairTo at h2; omega) (by rw [hc.len]; exact ha) h3
    · rcases Nat.lt_or_ge (cells.count (d : Int)) 2 with h6 | h6
      · exact h6
      · exfalso
        obtain ⟨u, v, h7, h8, h9, h10⟩ := two_count h6
        have := h4 u v (by unfold pairTo; rw [hc.len] at h8; omega) (h9.trans h10.symm)
        omega
set_option maxRecDepth 100000 in
set_option maxHeartbeats 2000000 in
theorem l22Target_any (A : Option Addr) (n c : Nat) (cells : List Int) (w : World) (ha : RI w A n cells) (hn : n ≤ 1048576) (hc : Cells n cells) :
    Calls Tryz.prog 260 #[.slice A n c] w (Quiet w (.int .i64 (tgtP cells))) := by
  have HC := Lib.hid hc; clear hc
  go_enter Tryz.func260, Tryz.ntmps260
  go_wp2
  go_loopw [3, 4] (fun o i wr => ∃ (k : Nat) (out : Int), k ≤ n ∧ i = .int .i64 k ∧ o = .int .i64 out ∧ Drawn w wr ∧ TgtTo cells k 0 out) (fun _ i _ => n - (intOf i).toNat)
  case atStart => exact ⟨0, _, Nat.zero_le _, rfl, rfl, Drawn.refl _, tgtTo_zero _⟩
  case round =>
    obtain ⟨k, out, hk, rfl, rfl, hd, ht⟩ := hrel
    by_cases hlt : k < n
    · have HT := Lib.hid ht; clear ht
      go_wp2
      obtain ⟨wo, rfl⟩ : ∃ wo : World, wo = wr := ⟨_, rfl⟩
      go_loopw [3, 5] (fun o i w2 => ∃ (j : Nat) (out : Int), j ≤ k ∧ i = .int .i64 j ∧ o = .int .i64 out ∧ Drawn w w2 ∧ TgtTo cells k j out) (fun _ i _ => k - (intOf i).toNat)
      case atStart => exact ⟨0, _, Nat.zero_le _, rfl, rfl, hd, HT.out⟩
      case round =>
        obtain ⟨j, o2, hj, rfl, rfl, hd2, ht2⟩ := hrel
        have hrg := tgtTo_range ht2
        by_cases hjl : j < k
        · obtain ⟨a, rfl, hcu, hiu⟩ := (ha.drawn hd2).get hlt
          obtain ⟨a', e', hcv, hiv⟩ := (ha.drawn hd2).get (k := j) (by omega)
          injection e' with e'
          subst e'
          obtain ⟨b1, b2⟩ := HC.out.bd k hlt
          by_cases he : nth cells k = nth cells j
          · have he1 : (nth cells k == nth cells j) = true := by simp [he]
            by_cases h0 : o2 < 0
            · have HN := Lib.hid (tgtTo_new ht2 hjl he b1 (.inl h0))
              clear ht2 he
              go_wp2
              go_quiet (fail)
              go_wp2
              go_roundw
              case rel => exact ⟨j + 1, _, by omega, by go_num, rfl, hd2.more _, HN.out⟩
              case measure => simp [intOf]; omega
            · have h0' : decide (o2 < 0) = false := by simpa using h0
              have h0'' : 0 ≤ o2 := by omega
              by_cases h1 : nth cells k < o2
              · have HN := Lib.hid (tgtTo_new ht2 hjl he b1 (.inr h1))
                clear ht2 he
                go_wp2
                go_quiet (fail)
                go_wp2
                go_roundw
                case rel => exact ⟨j + 1, _, by omega, by go_num, rfl, hd2.more _, HN.out⟩
                case measure => simp [intOf]; omega
              · have h1' : decide (nth cells k < o2) = false := by simpa using h1
                have HN := Lib.hid (tgtTo_old (u := k) (v := j) ht2 (.inr ⟨h0'', by omega⟩))
                clear ht2 he
                go_wp2
                go_quiet (fail)
                go_wp2
                go_roundw
                case rel => exact ⟨j + 1, _, by omega, by go_num, rfl, hd2.more _, HN.out⟩
                case measure => simp [intOf]; omega
          · have he1 : (nth cells k == nth cells j) = false := by simp [he]
            have HN := Lib.hid (tgtTo_old (u := k) (v := j) ht2 (.inl he))
            clear ht2 he
            go_wp2
            go_quiet (fail)
            go_wp2
            go_roundw
            case rel => exact ⟨j + 1, _, by omega, by go_num, rfl, hd2.more _, HN.out⟩
            case measure => simp [intOf]; omega
        · obtain rfl : j = k := by omega
          have HN := Lib.hid (tgtTo_next ht2)
          clear ht2
          go_wp2
          go_roundw
          case rel => exact ⟨j + 1, _, by omega, by go_num, rfl, hd2, HN.out⟩
          case measure => simp [intOf]; omega
    · obtain rfl : k = n := by omega
      have HN := Lib.hid (tgtTo_end HC.out ht)
      clear ht
      go_wp2
      go_ret
      exact ⟨ret_int HN.out.symm, hd⟩
end Go.Proofs.YtdkbcjdimhgmnaaGreat
