/- Rising lists by putting, and lists in order by insertion: the reference's side. No condition beyond those stated. -/
import Derived.Test.YtdkbcjdimhgmnaaGreatRGG
set_option linter.unusedVariables false
set_option linter.unusedSimpArgs false
namespace Go.Proofs.YtdkbcjdimhgmnaaGreat
open Go.RowKit
def PutTo {α : Type} (c : α → α → Int) (zs : List α) (x : α) (k : Nat) (L : List α) (d : Bool) : Prop :=
  (d = false ∧ L = zs.take k ∧ ∀ y, y ∈ zs.take k → c y x < 0) ∨ (d = true ∧ L ++ zs.drop k = putG c zs x)
section
variable {α : Type} {c : α → α → Int} {zs L : List α} {x : α} {k : Nat} {d : Bool}
theorem putTo_zero (c : α → α → Int) (zs : List α) (x : α) : PutTo c zs x 0 [] false := .inl ⟨rfl, by simp, fun y h => by simp at h⟩
theorem putTo_done {y : α} (h : PutTo c zs x k L true) (hk : zs[k]? = some y) : PutTo c zs x (k + 1) (L ++ [y]) true := by
  obtain ⟨hl, rfl⟩ := List.getElem?_eq_some_iff.1 hk
  rcases h with ⟨h, _⟩ | ⟨_, h⟩
  · cases h
  · refine .inr ⟨rfl, ?_⟩
    rw [List.append_assoc, List.singleton_append, ← List.drop_eq_getElem_cons hl]
    exact h
theorem putTo_less {y : α} (h : PutTo c zs x k L false) (hk : zs[k]? = some y) (hc : c y x < 0) : PutTo c zs x (k + 1) (L ++ [y]) false := by
  obtain ⟨hl, rfl⟩ := List.getElem?_eq_some_iff.1 hk
  rcases h with ⟨_, h1, h2⟩ | ⟨h, _⟩
  · refine .inl ⟨rfl, by rw [List.take_succ_eq_append_getElem hl, h1], fun z hz => ?_⟩
    rw [List.take_succ_eq_append_getElem hl] at hz
    rcases List.mem_append.1 hz with hz | hz
    · exact h2 z hz
    · rw [List.mem_singleton.1 hz]; exact hc
  · cases h
theorem putTo_at {y : α} (h : PutTo c zs x k L false) (hk : zs[k]? = some y) (hc : ¬ c y x < 0) : putG c zs x = L ++ ((if c y x = 0 then [] else [x]) ++ y :: zs.drop (k + 1)) := by
  obtain ⟨hl, rfl⟩ := List.getElem?_eq_some_iff.1 hk
  rcases h with ⟨_, h1, h2⟩ | ⟨h, _⟩
  · rw [putG_before (k := k) (by omega) h2, ← h1, List.drop_eq_getElem_cons hl, putG, if_neg hc]
    split <;> simp
  · cases h
theorem putTo_same {y : α} (h : PutTo c zs x k L false) (hk : zs[k]? = some y) (hc : c y x = 0) : PutTo c zs x (k + 1) (L ++ [y]) true := by
  refine .inr ⟨rfl, ?_⟩
  rw [putTo_at h hk (by omega), if_pos hc]
  simp
theorem putTo_more {y : α} (h : PutTo c zs x k L false) (hk : zs[k]? = some y) (hc : 0 < c y x) : PutTo c zs x (k + 1) (L ++ [x] ++ [y]) true := by
  refine .inr ⟨rfl, ?_⟩
  rw [putTo_at h hk (by omega), if_neg (by omega)]
  simp
theorem putTo_end1 (h : PutTo c zs x zs.length L true) : L = putG c zs x := by
  rcases h with ⟨h, _⟩ | ⟨_, h⟩
  · cases h
  · simpa using h
theorem putTo_end0 (h : PutTo c zs x zs.length L false) : L ++ [x] = putG c zs x := by
  rcases h with ⟨_, h1, h2⟩ | ⟨h, _⟩
  · rw [putG_before (k := zs.length) (Nat.le_refl _) h2, h1]
    simp [putG]
  · cases h
theorem putTo_len (h : PutTo c zs x k L d) (hk : k ≤ zs.length) : L.length ≤ k + 1 := by
  rcases h with ⟨_, h1, _⟩ | ⟨_, h⟩
  · rw [h1, List.length_take]; omega
  · have h2 := putG_len (c := c) zs x
    rw [← h] at h2
    simp at h2
    omega
end
set_option maxRecDepth 100000 in
set_option maxHeartbeats 2000000 in
theorem l00Put_any (A : Option Addr) (n c : Nat) (zs : List Int) (x : Int) (w : World) (ha : RI w A n zs) (hn : n ≤ 1099511627776) (hx : I64 x) :
    Calls Tryz.prog 182 #[.slice A n c, .int .i64 x] w (RetI w 2 (putG sgnI zs x)) := by
  have hla := Lib.hid ha.len
  have ho0 := OI.lit w w.heap.size 2 [] (Nat.le_refl _) (by simp) All64.nil_
  have hw0 := below_alloc w (.cells #[] 2)
  go_enter Tryz.func182, Tryz.ntmps182
  go_wp2
  go_loopw [5, 6, 7] (fun v f i wr => ∃ (k m : Nat) (A' : Option Addr) (c' : Nat) (L : List Int) (d : Bool), k ≤ n ∧ i = .int .i64 k ∧ v = .slice A' m c' ∧ f = .bool d ∧ OI wr w.heap.size 2 A' m c' L ∧ Below w.heap.size w wr ∧ PutTo sgnI zs x k L d) (fun _ _ i _ => n - (intOf i).toNat)
  case atStart => exact ⟨0, _, _, _, [], _, Nat.zero_le _, rfl, rfl, rfl, ho0, hw0, putTo_zero _ _ _⟩
  case round =>
    obtain ⟨k, m, A', c', L, d, hk, rfl, rfl, rfl, ho, hw, hp⟩ := hrel
    have hm : m ≤ k + 1 := by have := ho.len; have := putTo_len hp (by rw [hla.out]; exact hk); omega
    clear ho0 hw0
    by_cases hlt : k < n
    · obtain ⟨a, rfl, hca, hia⟩ := (ha.keep hw).get hlt
      have hz : zs[k]? = some (nth zs k) := nth_some (by rw [hla.out]; exact hlt)
      cases d with
      | true =>
        have HP := Lib.hid (putTo_done hp hz)
        clear hp hz
        go_wp2_with (at_builtin; refine app_int _ rfl (.tmp 35) (.tmp 40) rfl w.heap.size A' m c' L rfl ho (nth zs k) _ rfl (by simp) hia (by omega) hw.size ?_; intro A2 c2 w3 ho3 hg3 hn3)
        have hw3 := below_own hw hg3 hw.size (fun b hb => (ho.os.lt hb).1)
        clear ho hg3 hn3 hca
        go_roundw
        case rel => exact ⟨k + 1, _, _, _, _, true, by omega, by go_num, rfl, rfl, ho3, hw3, HP.out⟩
        case measure => simp [intOf]; omega
      | false =>
        by_cases h1 : nth zs k < x
        · have HP := Lib.hid (putTo_less hp hz (by rcases sgnI_cases (nth zs k) x with ⟨_, e⟩ | ⟨_, e⟩ | ⟨_, e⟩ <;> omega))
          clear hp hz
          go_wp2_with (at_builtin; refine app_int _ rfl (.tmp 35) (.tmp 40) rfl w.heap.size A' m c' L rfl ho (nth zs k) _ rfl (by simp) hia (by omega) hw.size ?_; intro A2 c2 w3 ho3 hg3 hn3)
          have hw3 := below_own hw hg3 hw.size (fun b hb => (ho.os.lt hb).1)
          clear ho hg3 hn3 hca
          go_roundw
          case rel => exact ⟨k + 1, _, _, _, _, false, by omega, by go_num, rfl, rfl, ho3, hw3, HP.out⟩
          case measure => simp [intOf]; omega
        · have h1' : x ≤ nth zs k := by omega
          by_cases h2 : nth zs k = x
          · have HP := Lib.hid (putTo_same hp hz (by rw [h2]; exact sgnI_ord.self x))
            have h3 : ¬ x < nth zs k := by omega
            clear hp hz h2
            go_wp2_with (at_builtin; refine app_int _ rfl (.tmp 35) (.tmp 40) rfl w.heap.size A' m c' L rfl ho (nth zs k) _ rfl (by simp) hia (by omega) hw.size ?_; intro A2 c2 w3 ho3 hg3 hn3)
            have hw3 := below_own hw hg3 hw.size (fun b hb => (ho.os.lt hb).1)
            clear ho hg3 hn3 hca
            go_roundw
            case rel => exact ⟨k + 1, _, _, _, _, true, by omega, by go_num, rfl, rfl, ho3, hw3, HP.out⟩
            case measure => simp [intOf]; omega
          · have h3 : x < nth zs k := by omega
            have HP := Lib.hid (putTo_more hp hz (by rcases sgnI_cases (nth zs k) x with ⟨_, e⟩ | ⟨_, e⟩ | ⟨_, e⟩ <;> omega))
            have hca0 := below_cell (below_alloc wr (.cells #[.int .i64 x] 2)) hca
            clear hp hz h2 h1 h1'
            go_wp2_with (first
              | (at_builtin; refine app_int _ rfl (.tmp 31) (.tmp 33) rfl w.heap.size A' m c' L rfl ho x _ rfl (by simp) hx (by omega) hw.size ?_; intro A2 c2 w3 ho3 hg3 hn3; have hw3 := below_own hw hg3 hw.size (fun b hb => (ho.os.lt hb).1); obtain ⟨a3, e3, hc3, _⟩ := (ha.keep hw3).get hlt; injection e3 with e3; subst e3; clear hca hca0)
              | (at_builtin; refine app_int _ rfl (.tmp 35) (.tmp 40) rfl w.heap.size A2 (m + 1) c2 (L ++ [x]) rfl ho3 (nth zs k) _ rfl (by simp) hia (by omega) hw3.size ?_; intro A4 c4 w4 ho4 hg4 hn4))
            have hw4 := below_own hw3 hg4 hw3.size (fun b hb => (ho3.os.lt hb).1)
            clear ho hg3 hn3 ho3 hg4 hn4 hc3
            go_roundw
            case rel => exact ⟨k + 1, _, _, _, _, true, by omega, by go_num, rfl, rfl, ho4, hw4, HP.out⟩
            case measure => simp [intOf]; omega
    · obtain rfl : k = n := by omega
      rw [← hla.out] at hp
      cases d with
      | true =>
        have HP := Lib.hid (putTo_end1 hp)
        clear hp
        go_wp2
        go_ret
        exact ⟨_, _, _, rfl, by rw [← HP.out]; exact ho, hw⟩
      | false =>
        have HP := Lib.hid (putTo_end0 hp)
        clear hp
        go_wp2_with (at_builtin; refine app_int _ rfl (.tmp 44) (.tmp 46) rfl w.heap.size A' m c' L rfl ho x _ rfl (by simp) hx (by omega) hw.size ?_; intro A2 c2 w3 ho3 hg3 hn3)
        have hw3 := below_own hw hg3 hw.size (fun b hb => (ho.os.lt hb).1)
        go_ret
        exact ⟨_, _, _, rfl, by rw [← HP.out]; exact ho3, hw3⟩
structure Rows (w : World) (vs : List Sl) (L : List (List Int)) : Prop where
  len : vs.length = L.length
  row : ∀ (j : Nat) (v : Sl) (z : List Int), vs[j]? = some v → L[j]? = some z → v.2.1 ≤ v.2.2 ∧ v.2.2 ≤ 9223372036854775807 ∧ RI w v.1 v.2.1 z
section
variable {w w' : World} {vs us : List Sl} {L M : List (List Int)}
theorem Rows.nil_ (w : World) : Rows w [] [] := ⟨rfl, fun _ _ _ h => by simp at h⟩
theorem Rows.keep (h : Rows w vs L) (hb : Below w.heap.size w w') : Rows w' vs L := ⟨h.len, fun j v z hv hz => let ⟨a, b, c⟩ := h.row j v z hv hz; ⟨a, b, c.keep hb⟩⟩
theorem Rows.snoc (h : Rows w vs L) {v : Sl} {z : List Int} (h1 : v.2.1 ≤ v.2.2) (h2 : v.2.2 ≤ 9223372036854775807) (h3 : RI w v.1 v.2.1 z) : Rows w (vs ++ [v]) (L ++ [z]) := by
  refine ⟨by simp [h.len], fun j u y hu hy => ?_⟩
  rw [List.getElem?_append] at hu hy
  rw [h.len] at hu
  split at hu
  · rename_i hj
    rw [if_pos hj] at hy
    exact h.row j u y hu hy
  · rename_i hj
    rw [if_neg hj] at hy
    have e : j - L.length = 0 := by have := (List.getElem?_eq_some_iff.1 hu).1; simp at this; omega
    rw [e] at hu hy
    simp at hu hy
    subst hu; subst hy
    exact ⟨h1, h2, h3⟩
end
section
variable {ops : Array Oper} {rest : List Oper} {o : Oper} {a : Act} {Q : Exit → Act → World → Prop}
theorem app_sl (w : World) (hgd : o.guard = none) (s x : Operand) (ho : o.op = .call { callee := .builtin .append, args := #[s, x], argTypes := #[25, 25] })
    (B : Nat) (A : Option Addr) (n c : Nat) (vs : List Sl) (hs : a.eval s = .slice A n c) (hown : OS w B 22 1 A n c (vs.map slv)) (v : Sl)
    (g : Nat) (hx : a.eval x = .slice (some ⟨g, 0, none⟩) 1 1) (hgx : g = w.heap.size) (hbig : n + 1 ≤ 2199023255552) (hB : B ≤ w.heap.size)
    (h : ∀ A' c' w', OS w' B 22 1 A' (n + 1) c' ((vs ++ [v]).map slv) → w.grownBy w' (blk A) → (blk A' = blk A ∨ ∃ k, blk A' = some k ∧ w.heap.size ≤ k) → wpList Tryz.prog ops Q rest (a.put o.dst (.slice A' (n + 1) c')) w') :
    wpList Tryz.prog ops Q (o :: rest) a (w.alloc (.cells #[.slice v.1 v.2.1 v.2.2] 22)) :=
  wpList_app1' w hgd s x 25 ho 22 (.slice none 0 0) 24 Tryz.underlying25 ints_info rfl (by omega) B A n c (vs.map slv) hs hown (.slice v.1 v.2.1 v.2.2) g hx hgx rfl hbig hB
    fun A' c' w' h1 h2 h3 => h A' c' w' (by simpa [slv] using h1) h2 h3
end
def vL (cells : List Int) : List Int := if tgtP cells < 0 then [] else vertsP cells (tgtP cells)
theorem vL_none {cells : List Int} (h : ∀ c : Nat, c < cells.length → cells.count (c : Int) < 2) : vL cells = [] := by rw [vL, if_pos (by rw [tgtP_none h]; omega)]
theorem vL_some {cells : List Int} {c : Nat} (hc : c < cells.length) (h2 : 2 ≤ cells.count (c : Int)) (hl : ∀ d : Nat, d < c → cells.count (d : Int) < 2) : vL cells = vertsP cells c := by
  rw [vL, tgtP_val hc h2 hl, if_neg (by omega)]
def fewTo (cells : List Int) (k : Nat) : Prop := ∀ d : Nat, d < k → cells.count (d : Int) < 2
theorem fewTo_zero (cells : List Int) : fewTo cells 0 := fun _ h => absurd h (by omega)
theorem fewTo_step {cells : List Int} {k : Nat} (h : fewTo cells k) (hk : ¬ 1 < (vertsP cells (k : Int)).length) : fewTo cells (k + 1) := fun d hd => by
  rcases Nat.lt_succ_iff_lt_or_eq.1 hd with h' | h'
  · exact h d h'
  · rw [h', ← vertsP_count]; omega
theorem vT_more (cells : List Int) (t : Int) (k : Nat) : vT cells t (k + 1) = if nth cells k = t then vT cells t k ++ [(k : Int)] else vT cells t k := vT_step cells t k
set_option maxRecDepth 100000 in
set_option maxHeartbeats 1000000 in
theorem target_any (A : Option Addr) (n c : Nat) (cells : List Int) (w : World) (ha : RI w A n cells) (hn : n ≤ 1048576) :
    Calls Tryz.prog 232 #[.slice A n c] w (RetI w 2 (vL cells)) := by
  have hla := Lib.hid ha.len
  go_enter Tryz.func232, Tryz.ntmps232
  go_wp2
  go_loopw [9] (fun i wr => ∃ k : Nat, k ≤ n ∧ i = .int .i64 k ∧ Below w.heap.size w wr ∧ fewTo cells k) (fun i _ => n - (intOf i).toNat)
  case atStart => exact ⟨0, Nat.zero_le _, rfl, Below.refl _ _, fewTo_zero _⟩
  case round =>
    obtain ⟨k, hk, rfl, hw, hf⟩ := hrel
    by_cases hlt : k < n
    · have HF := Lib.hid hf; clear hf
      have hsz := hw.size
      go_wp2
      obtain ⟨wo, rfl⟩ : ∃ wo : World, wo = wr := ⟨_, rfl⟩
      go_loopw [4, 14] (fun v i w2 => ∃ (j m : Nat) (A' : Option Addr) (c' : Nat), j ≤ n ∧ i = .int .i64 j ∧ v = .slice A' m c' ∧ OI w2 w.heap.size 2 A' m c' (vT cells k j) ∧ Below w.heap.size w w2) (fun _ i _ => n - (intOf i).toNat)
      case atStart => exact ⟨0, 0, _, _, Nat.zero_le _, rfl, rfl, OI.nil_ _ _ _, hw⟩
      case round =>
        obtain ⟨j, m, A', c', hj, rfl, rfl, ho, hw2⟩ := hrel
        by_cases hjl : j < n
        · obtain ⟨a, rfl, hca, hia⟩ := (ha.keep hw2).get hjl
          have hm : m ≤ n := by have := ho.len; have := vT_len cells k j; omega
          by_cases he : nth cells j = k
          · have he' : (nth cells j == (k : Int)) = true := by simp [he]
            have HV := Lib.hid (show vT cells k (j + 1) = vT cells k j ++ [(j : Int)] by rw [vT_more, if_pos he])
            rw [he] at hca
            clear he he' hia
            have hkk : ((k : Int) == (k : Int)) = true := by simp
            go_wp2_with (at_builtin; refine app_int _ rfl _ _ rfl w.heap.size A' m c' (vT cells k j) rfl ho (j : Int) _ rfl (by simp) ⟨by omega, by omega⟩ (by omega) hw2.size ?_; intro A2 c2 w3 ho3 hg3 hn3)
            have hw3 := below_own hw2 hg3 hw2.size (fun b hb => (ho.os.lt hb).1)
            clear ho hg3 hn3 hca
            go_roundw
            case rel => exact ⟨j + 1, _, _, _, by omega, by go_num, rfl, by rw [HV.out]; exact ho3, hw3⟩
            case measure => simp [intOf]; omega
          · have he' : (nth cells j == (k : Int)) = false := by simp [he]
            have HV := Lib.hid (show vT cells k (j + 1) = vT cells k j by rw [vT_more, if_neg he])
            clear he
            go_wp2
            go_roundw
            case rel => exact ⟨j + 1, _, _, _, by omega, by go_num, rfl, by rw [HV.out]; exact ho, hw2⟩
            case measure => simp [intOf]; omega
        · have HJ := Lib.hid (show vT cells k j = vertsP cells k by rw [show j = cells.length by rw [hla.out]; omega]; exact vT_all cells k)
          rw [HJ.out] at ho
          have hml := Lib.hid ho.len
          by_cases h1 : 1 < m
          · have HR := Lib.hid (show vL cells = vertsP cells k from vL_some (by rw [hla.out]; exact hlt) (by rw [← vertsP_count, hml.out]; omega) HF.out)
            clear hlt hk hj
            have hm9 : (m : Int) > 1 := by omega
            go_wp2
            go_ret
            exact ⟨_, _, _, rfl, by rw [HR.out]; exact ho, hw2⟩
          · have HN := Lib.hid (fewTo_step HF.out (by rw [hml.out]; exact h1))
            go_wp2
            go_roundw
            case rel => exact ⟨k + 1, by omega, by go_num, hw2, HN.out⟩
            case measure => simp [intOf]; omega
    · have HR := Lib.hid (show vL cells = [] from vL_none (by rw [hla.out]; intro d hd; exact hf d (by omega)))
      clear hf
      go_wp2
      go_ret
      exact ⟨none, 0, 0, rfl, by rw [HR.out]; exact OI.nil_ _ _ _, hw⟩
end Go.Proofs.YtdkbcjdimhgmnaaGreat
