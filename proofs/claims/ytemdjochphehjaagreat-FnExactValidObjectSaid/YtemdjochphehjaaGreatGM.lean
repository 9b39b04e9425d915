/- Rising lists by putting, and lists in order by insertion: the reference's side. No condition beyond those stated. -/
import Derived.Test.YtemdjochphehjaaGreatGC
import Derived.Test.YtemdjochphehjaaGreatGB
import Derived.Deep.QuietTactic
import Derived.BigQuiet
import Derived.Test.YtemdjochphehjaaGreatGG
set_option linter.unusedVariables false
set_option linter.unusedSimpArgs false
namespace Go.Proofs.YtemdjochphehjaaGreat
open Go.RowKit

/-- a list built by putting x among the first k -/
def PutTo {α : Type} (c : α → α → Int) (zs : List α) (x : α) (k : Nat) (L : List α) (d : Bool) : Prop :=
  (d = false ∧ L = zs.take k ∧ ∀ y, y ∈ zs.take k → c y x < 0) ∨ (d = true ∧ L ++ zs.drop k = putG c zs x)
section
variable {α : Type} {c : α → α → Int} {zs L : List α} {x : α} {k : Nat} {d : Bool}
theorem putTo_zero (c : α → α → Int) (zs : List α) (x : α) : PutTo c zs x 0 [] false := .inl ⟨rfl, by simp, fun y h => by simp at h⟩
theorem putTo_done {y : α} (h : PutTo c zs x k L true) (hk : zs[k]? = some y) : PutTo c zs x (k + 1) (L ++ [y]) true := by
  obtain ⟨hl, rfl⟩ := List.getElem?_eq_some_iff.1 hk
  rcases h with ⟨h, _⟩ | ⟨_, h⟩
  · cases h
  · refine .inr ⟨rfl, ?_⟩
    rw [List.append_assoc, List.singleton_append, ← List.drop_eq_getElem_cons hl]
    exact h
theorem putTo_less {y : α} (h : PutTo c zs x k L false) (hk : zs[k]? = some y) (hc : c y x < 0) : PutTo c zs x (k + 1) (L ++ [y]) false := by
  obtain ⟨hl, rfl⟩ := List.getElem?_eq_some_iff.1 hk
  rcases h with ⟨_, h1, h2⟩ | ⟨h, _⟩
  · refine .inl ⟨rfl, by rw [List.take_succ_eq_append_getElem hl, h1], fun z hz => ?_⟩
    rw [List.take_succ_eq_append_getElem hl] at hz
    rcases List.mem_append.1 hz with hz | hz
    · exact h2 z hz
    · rw [List.mem_singleton.1 hz]; exact hc
  · cases h
theorem putTo_at {y : α} (h : PutTo c zs x k L false) (hk : zs[k]? = some y) (hc : ¬ c y x < 0) : putG c zs x = L ++ ((if c y x = 0 then [] else [x]) ++ y :: zs.drop (k + 1)) := by
  obtain ⟨hl, rfl⟩ := List.getElem?_eq_some_iff.1 hk
  rcases h with ⟨_, h1, h2⟩ | ⟨h, _⟩
  · rw [putG_before (k := k) (by omega) h2, ← h1, List.drop_eq_getElem_cons hl, putG, if_neg hc]
    split <;> simp
  · cases h
theorem putTo_same {y : α} (h : PutTo c zs x k L false) (hk : zs[k]? = some y) (hc : c y x = 0) : PutTo c zs x (k + 1) (L ++ [y]) true := by
  refine .inr ⟨rfl, ?_⟩
  rw [putTo_at h hk (by omega), if_pos hc]
  simp
theorem putTo_more {y : α} (h : PutTo c zs x k L false) (hk : zs[k]? = some y) (hc : 0 < c y x) : PutTo c zs x (k + 1) (L ++ [x] ++ [y]) true := by
  refine .inr ⟨rfl, ?_⟩
  rw [putTo_at h hk (by omega), if_neg (by omega)]
  simp
theorem putTo_end1 (h : PutTo c zs x zs.length L true) : L = putG c zs x := by
  rcases h with ⟨h, _⟩ | ⟨_, h⟩
  · cases h
  · simpa using h
theorem putTo_end0 (h : PutTo c zs x zs.length L false) : L ++ [x] = putG c zs x := by
  rcases h with ⟨_, h1, h2⟩ | ⟨h, _⟩
  · rw [putG_before (k := zs.length) (Nat.le_refl _) h2, h1]
    simp [putG]
  · cases h
theorem putTo_len (h : PutTo c zs x k L d) (hk : k ≤ zs.length) : L.length ≤ k + 1 := by
  rcases h with ⟨_, h1, _⟩ | ⟨_, h⟩
  · rw [h1, List.length_take]; omega
  · have h2 := putG_len (c := c) zs x
    rw [← h] at h2
    simp at h2
    omega
end
theorem sgnI_ge {x y : Int} (h : ¬ sgnI x y < 0) : decide (x ≥ y) = true := by
  rcases sgnI_cases x y with ⟨h1, e⟩ | ⟨h1, e⟩ | ⟨h1, e⟩
  · omega
  · simp; omega
  · simp; omega
theorem nth_some' {zs : List Int} {k : Nat} (h : k < zs.length) : zs[k]? = some (nth zs k) := nth_some h
set_option maxRecDepth 100000 in
set_option maxHeartbeats 2000000 in
theorem l00Put_any (A : Option Addr) (n c : Nat) (zs : List Int) (x : Int) (w : World) (ha : RI w A n zs) (hn : n ≤ 1099511627776) (hx : I64 x) :
    Calls Tryz.prog 268 #[.slice A n c, .int .i64 x] w (RetI w 2 (putG sgnI zs x)) := by
  have hla := Lib.hid ha.len
  have ho0 := OI.lit w w.heap.size 2 [] (Nat.le_refl _) (by simp) All64.nil_
  have hw0 := below_alloc w (.cells #[] 2)
  go_enter Tryz.func268, Tryz.ntmps268
  go_wp2
  go_loopw [5, 6, 7] (fun v f i wr => ∃ (k m : Nat) (A' : Option Addr) (c' : Nat) (L : List Int) (d : Bool), k ≤ n ∧ i = .int .i64 k ∧ v = .slice A' m c' ∧ f = .bool d ∧ OI wr w.heap.size 2 A' m c' L ∧ Below w.heap.size w wr ∧ PutTo sgnI zs x k L d) (fun _ _ i _ => n - (intOf i).toNat)
  case atStart => exact ⟨0, _, _, _, [], _, Nat.zero_le _, rfl, rfl, rfl, ho0, hw0, putTo_zero _ _ _⟩
  case round =>
    obtain ⟨k, m, A', c', L, d, hk, rfl, rfl, rfl, ho, hw, hp⟩ := hrel
    have hm : m ≤ k + 1 := by have := ho.len; have := putTo_len hp (by rw [hla.out]; exact hk); omega
    clear ho0 hw0
    by_cases hlt : k < n
    · obtain ⟨a, rfl, hca, hia⟩ := (ha.keep hw).get hlt
      have hz : zs[k]? = some (nth zs k) := nth_some (by rw [hla.out]; exact hlt)
      cases d with
      | true =>
        have HP := Lib.hid (putTo_done hp hz)
        clear hp hz
        go_wp2_with (at_builtin; refine app_int _ rfl (.tmp 35) (.tmp 40) rfl w.heap.size A' m c' L rfl ho (nth zs k) _ rfl (by simp) hia (by omega) hw.size ?_; intro A2 c2 w3 ho3 hg3 hn3)
        have hw3 := below_own hw hg3 hw.size (fun b hb => (ho.os.lt hb).1)
        clear ho hg3 hn3 hca
        go_roundw
        case rel => exact ⟨k + 1, _, _, _, _, true, by omega, by go_num, rfl, rfl, ho3, hw3, HP.out⟩
        case measure => simp [intOf]; omega
      | false =>
        by_cases h1 : nth zs k < x
        · have HP := Lib.hid (putTo_less hp hz (by rcases sgnI_cases (nth zs k) x with ⟨_, e⟩ | ⟨_, e⟩ | ⟨_, e⟩ <;> omega))
          clear hp hz
          go_wp2_with (at_builtin; refine app_int _ rfl (.tmp 35) (.tmp 40) rfl w.heap.size A' m c' L rfl ho (nth zs k) _ rfl (by simp) hia (by omega) hw.size ?_; intro A2 c2 w3 ho3 hg3 hn3)
          have hw3 := below_own hw hg3 hw.size (fun b hb => (ho.os.lt hb).1)
          clear ho hg3 hn3 hca
          go_roundw
          case rel => exact ⟨k + 1, _, _, _, _, false, by omega, by go_num, rfl, rfl, ho3, hw3, HP.out⟩
          case measure => simp [intOf]; omega
        · have h1' : x ≤ nth zs k := by omega
          by_cases h2 : nth zs k = x
          · have HP := Lib.hid (putTo_same hp hz (by rw [h2]; exact sgnI_ord.self x))
            have h3 : ¬ x < nth zs k := by omega
            clear hp hz h2
            go_wp2_with (at_builtin; refine app_int _ rfl (.tmp 35) (.tmp 40) rfl w.heap.size A' m c' L rfl ho (nth zs k) _ rfl (by simp) hia (by omega) hw.size ?_; intro A2 c2 w3 ho3 hg3 hn3)
            have hw3 := below_own hw hg3 hw.size (fun b hb => (ho.os.lt hb).1)
            clear ho hg3 hn3 hca
            go_roundw
            case rel => exact ⟨k + 1, _, _, _, _, true, by omega, by go_num, rfl, rfl, ho3, hw3, HP.out⟩
            case measure => simp [intOf]; omega
          · have h3 : x < nth zs k := by omega
            have HP := Lib.hid (putTo_more hp hz (by rcases sgnI_cases (nth zs k) x with ⟨_, e⟩ | ⟨_, e⟩ | ⟨_, e⟩ <;> omega))
            have hca0 := below_cell (below_alloc wr (.cells #[.int .i64 x] 2)) hca
            clear hp hz h2 h1 h1'
            go_wp2_with (first
              | (at_builtin; refine app_int _ rfl (.tmp 31) (.tmp 33) rfl w.heap.size A' m c' L rfl ho x _ rfl (by simp) hx (by omega) hw.size ?_; intro A2 c2 w3 ho3 hg3 hn3; have hw3 := below_own hw hg3 hw.size (fun b hb => (ho.os.lt hb).1); obtain ⟨a3, e3, hc3, _⟩ := (ha.keep hw3).get hlt; injection e3 with e3; subst e3; clear hca hca0)
              | (at_builtin; refine app_int _ rfl (.tmp 35) (.tmp 40) rfl w.heap.size A2 (m + 1) c2 (L ++ [x]) rfl ho3 (nth zs k) _ rfl (by simp) hia (by omega) hw3.size ?_; intro A4 c4 w4 ho4 hg4 hn4))
            have hw4 := below_own hw3 hg4 hw3.size (fun b hb => (ho3.os.lt hb).1)
            clear ho hg3 hn3 ho3 hg4 hn4 hc3
            go_roundw
            case rel => exact ⟨k + 1, _, _, _, _, true, by omega, by go_num, rfl, rfl, ho4, hw4, HP.out⟩
            case measure => simp [intOf]; omega
    · obtain rfl : k = n := by omega
      rw [← hla.out] at hp
      cases d with
      | true =>
        have HP := Lib.hid (putTo_end1 hp)
        clear hp
        go_wp2
        go_ret
        exact ⟨_, _, _, rfl, by rw [← HP.out]; exact ho, hw⟩
      | false =>
        have HP := Lib.hid (putTo_end0 hp)
        clear hp
        go_wp2_with (at_builtin; refine app_int _ rfl (.tmp 44) (.tmp 46) rfl w.heap.size A' m c' L rfl ho x _ rfl (by simp) hx (by omega) hw.size ?_; intro A2 c2 w3 ho3 hg3 hn3)
        have hw3 := below_own hw hg3 hw.size (fun b hb => (ho.os.lt hb).1)
        go_ret
        exact ⟨_, _, _, rfl, by rw [← HP.out]; exact ho3, hw3⟩
end Go.Proofs.YtemdjochphehjaaGreat
/- Rising lists of lists by putting: the reference's side. No condition beyond those stated. -/
namespace Go.Proofs.YtemdjochphehjaaGreat
open Go.RowKit

/-- slices that read as lists, one by one -/
structure Rows (w : World) (vs : List Sl) (L : List (List Int)) : Prop where
  len : vs.length = L.length
  row : ∀ (j : Nat) (v : Sl) (z : List Int), vs[j]? = some v → L[j]? = some z → v.2.1 ≤ v.2.2 ∧ v.2.2 ≤ 9223372036854775807 ∧ RI w v.1 v.2.1 z
section
variable {w w' : World} {vs us : List Sl} {L M : List (List Int)}
theorem Rows.nil_ (w : World) : Rows w [] [] := ⟨rfl, fun _ _ _ h => by simp at h⟩
theorem Rows.keep (h : Rows w vs L) (hb : Below w.heap.size w w') : Rows w' vs L := ⟨h.len, fun j v z hv hz => let ⟨a, b, c⟩ := h.row j v z hv hz; ⟨a, b, c.keep hb⟩⟩
theorem Rows.snoc (h : Rows w vs L) {v : Sl} {z : List Int} (h1 : v.2.1 ≤ v.2.2) (h2 : v.2.2 ≤ 9223372036854775807) (h3 : RI w v.1 v.2.1 z) : Rows w (vs ++ [v]) (L ++ [z]) := by
  refine ⟨by simp [h.len], fun j u y hu hy => ?_⟩
  rw [List.getElem?_append] at hu hy
  rw [h.len] at hu
  split at hu
  · rename_i hj
    rw [if_pos hj] at hy
    exact h.row j u y hu hy
  · rename_i hj
    rw [if_neg hj] at hy
    have e : j - L.length = 0 := by have := (List.getElem?_eq_some_iff.1 hu).1; simp at this; omega
    rw [e] at hu hy
    simp at hu hy
    subst hu; subst hy
    exact ⟨h1, h2, h3⟩
theorem Rows.reads (h : Rows w vs L) {B : Nat} {e2 : TypeId} {A : Option Addr} {n c : Nat} (ho : OS w B e2 1 A n c (vs.map slv)) : RR w A n L := by
  have hl := ho.len
  simp at hl
  refine ⟨by rw [← h.len]; exact hl, fun j z hz => ?_⟩
  have hj : j < vs.length := by rw [h.len]; exact (List.getElem?_eq_some_iff.1 hz).1
  have hv := List.getElem?_eq_getElem hj
  obtain ⟨ad, ha, hc⟩ := ho.cells j (slv vs[j]) (by rw [List.getElem?_map, hv]; rfl)
  obtain ⟨h1, h2, h3⟩ := h.row j _ z hv hz
  exact ⟨ad, _, ha, hc, _, _, _, rfl, h1, h2, h3⟩
theorem row_some {zss : List (List Int)} {k : Nat} (h : k < zss.length) : zss[k]? = some (row zss k) := by rw [row_get h]; exact List.getElem?_eq_getElem h
end
section
variable {ops : Array Oper} {rest : List Oper} {o : Oper} {a : Act} {Q : Exit → Act → World → Prop}
/-- one slice more, whatever it reads as -/
theorem app_sl (w : World) (hgd : o.guard = none) (s x : Operand) (ho : o.op = .call { callee := .builtin .append, args := #[s, x], argTypes := #[25, 25] })
    (B : Nat) (A : Option Addr) (n c : Nat) (vs : List Sl) (hs : a.eval s = .slice A n c) (hown : OS w B 22 1 A n c (vs.map slv)) (v : Sl)
    (g : Nat) (hx : a.eval x = .slice (some ⟨g, 0, none⟩) 1 1) (hgx : g = w.heap.size) (hbig : n + 1 ≤ 2199023255552) (hB : B ≤ w.heap.size)
    (h : ∀ A' c' w', OS w' B 22 1 A' (n + 1) c' ((vs ++ [v]).map slv) → w.grownBy w' (blk A) → (blk A' = blk A ∨ ∃ k, blk A' = some k ∧ w.heap.size ≤ k) → wpList Tryz.prog ops Q rest (a.put o.dst (.slice A' (n + 1) c')) w') :
    wpList Tryz.prog ops Q (o :: rest) a (w.alloc (.cells #[.slice v.1 v.2.1 v.2.2] 22)) :=
  wpList_app1' w hgd s x 25 ho 22 (.slice none 0 0) 24 Tryz.underlying25 ints_info rfl (by omega) B A n c (vs.map slv) hs hown (.slice v.1 v.2.1 v.2.2) g hx hgx rfl hbig hB
    fun A' c' w' h1 h2 h3 => h A' c' w' (by simpa [slv] using h1) h2 h3
end
set_option maxRecDepth 100000 in
set_option maxHeartbeats 2000000 in
theorem l21PutList_any (A : Option Addr) (n c : Nat) (zss : List (List Int)) (X : Option Addr) (p q : Nat) (x : List Int) (w : World) (ha : RR w A n zss) (hn : n ≤ 1048576) (hx : RI w X p x) (hp : p ≤ q) (hq : q ≤ 9223372036854775807) :
    Calls Tryz.prog 270 #[.slice A n c, .slice X p q] w (fun e w' => ∃ A' n' c', e = .returned (.slice A' n' c') ∧ RR w' A' n' (putG cmpL zss x) ∧ Below w.heap.size w w') := by
  have hla := Lib.hid ha.len
  have ho0 : OS (w.alloc (.cells #[] 22)) w.heap.size 22 1 (some ⟨w.heap.size, 0, none⟩) 0 0 (([] : List Sl).map slv) := OS.lit w w.heap.size 22 1 0 #[] (Nat.le_refl _) rfl (by omega)
  have hw0 := below_alloc w (.cells #[] 22)
  go_enter Tryz.func270, Tryz.ntmps270
  go_wp2
  go_loopw [5, 6, 7] (fun v f i wr => ∃ (k m : Nat) (A' : Option Addr) (c' : Nat) (vs : List Sl) (L : List (List Int)) (d : Bool), k ≤ n ∧ i = .int .i64 k ∧ v = .slice A' m c' ∧ f = .bool d ∧ OS wr w.heap.size 22 1 A' m c' (vs.map slv) ∧ Rows w vs L ∧ Below w.heap.size w wr ∧ PutTo cmpL zss x k L d) (fun _ _ i _ => n - (intOf i).toNat)
  case atStart => exact ⟨0, _, _, _, [], [], _, Nat.zero_le _, rfl, rfl, rfl, ho0, Rows.nil_ _, hw0, putTo_zero _ _ _⟩
  case round =>
    obtain ⟨k, m, A', c', vs, L, d, hk, rfl, rfl, rfl, ho, hr, hw, hpt⟩ := hrel
    have hm : m ≤ k + 1 := by have h1 := ho.len; have h2 := hr.len; have h3 := putTo_len hpt (by rw [hla.out]; exact hk); simp at h1; omega
    clear ho0 hw0
    by_cases hlt : k < n
    · obtain ⟨a, Y, p1, q1, rfl, hca, hp1, hq1, hri⟩ := ha.get hlt
      have HCA := Lib.hid hca
      replace hca := below_cell hw hca
      have hz : zss[k]? = some (row zss k) := row_some (by rw [hla.out]; exact hlt)
      generalize row zss k = z at *
      have hcmp := compareLists_any Y X p1 p q1 q z x wr (hri.keep hw) (hx.keep hw) (by omega) (by omega)
      have hbd := cmpL_bd z x
      cases d with
      | true =>
        have HP := Lib.hid (putTo_done hpt hz)
        have HR := Lib.hid (hr.snoc (v := (Y, p1, q1)) hp1 hq1 hri)
        clear hpt hz
        generalize cmpL z x = s at *
        go_wp2_with fail
        refine hcmp.mono ?_
        rintro e w1 ⟨rfl, hd1⟩
        have hw1 := hw.trans (hd1.below.mono hw.size)
        have ho1 := ho.below hd1.below
        have hca1 := below_cell hd1.below hca
        clear ho hca hcmp
        go_wp2_with (at_builtin; refine app_sl _ rfl (.tmp 34) (.tmp 39) rfl w.heap.size A' m c' vs rfl ho1 (Y, p1, q1) _ rfl (by simp) (by omega) hw1.size ?_; intro A2 c2 w3 ho3 hg3 hn3)
        have hw3 := below_own hw1 hg3 hw1.size (fun b hb => (ho1.lt hb).1)
        clear ho1 hg3 hn3 hca1
        go_roundw
        case rel => exact ⟨k + 1, _, _, _, _, _, true, by omega, by go_num, rfl, rfl, ho3, HR.out, hw3, HP.out⟩
        case measure => simp [intOf]; omega
      | false =>
        have HR := Lib.hid (hr.snoc (v := (Y, p1, q1)) hp1 hq1 hri)
        by_cases h1 : cmpL z x < 0
        · have HP := Lib.hid (putTo_less hpt hz h1)
          clear hpt hz
          generalize cmpL z x = s at *
          have h1' : decide (s ≥ 0) = false := by simpa using h1
          go_wp2_with fail
          refine hcmp.mono ?_
          rintro e w1 ⟨rfl, hd1⟩
          have hw1 := hw.trans (hd1.below.mono hw.size)
          have ho1 := ho.below hd1.below
          have hca1 := below_cell hd1.below hca
          clear ho hca hcmp
          go_wp2_with (at_builtin; refine app_sl _ rfl (.tmp 34) (.tmp 39) rfl w.heap.size A' m c' vs rfl ho1 (Y, p1, q1) _ rfl (by simp) (by omega) hw1.size ?_; intro A2 c2 w3 ho3 hg3 hn3)
          have hw3 := below_own hw1 hg3 hw1.size (fun b hb => (ho1.lt hb).1)
          clear ho1 hg3 hn3 hca1
          go_roundw
          case rel => exact ⟨k + 1, _, _, _, _, _, false, by omega, by go_num, rfl, rfl, ho3, HR.out, hw3, HP.out⟩
          case measure => simp [intOf]; omega
        · by_cases h2 : cmpL z x = 0
          · have HP := Lib.hid (putTo_same hpt hz h2)
            clear hpt hz
            rw [h2] at hcmp
            clear h1 h2 hbd
            go_wp2_with fail
            refine hcmp.mono ?_
            rintro e w1 ⟨rfl, hd1⟩
            have hw1 := hw.trans (hd1.below.mono hw.size)
            have ho1 := ho.below hd1.below
            have hca1 := below_cell hd1.below hca
            clear ho hca hcmp
            go_wp2_with (at_builtin; refine app_sl _ rfl (.tmp 34) (.tmp 39) rfl w.heap.size A' m c' vs rfl ho1 (Y, p1, q1) _ rfl (by simp) (by omega) hw1.size ?_; intro A2 c2 w3 ho3 hg3 hn3)
            have hw3 := below_own hw1 hg3 hw1.size (fun b hb => (ho1.lt hb).1)
            clear ho1 hg3 hn3 hca1
            go_roundw
            case rel => exact ⟨k + 1, _, _, _, _, _, true, by omega, by go_num, rfl, rfl, ho3, HR.out, hw3, HP.out⟩
            case measure => simp [intOf]; omega
          · have e1 : cmpL z x = 1 := by omega
            have HP := Lib.hid (putTo_more hpt hz (by omega))
            have HR2 := Lib.hid ((hr.snoc (v := (X, p, q)) hp hq hx).snoc (v := (Y, p1, q1)) hp1 hq1 hri)
            clear hpt hz
            rw [e1] at hcmp
            clear h1 h2 hbd e1 HR
            go_wp2_with fail
            refine hcmp.mono ?_
            rintro e w1 ⟨rfl, hd1⟩
            have hw1 := hw.trans (hd1.below.mono hw.size)
            have ho1 := ho.below hd1.below
            have hca1 := below_cell hd1.below hca
            clear ho hca hcmp
            go_wp2_with (first
              | (at_builtin; refine app_sl _ rfl (.tmp 30) (.tmp 32) rfl w.heap.size A' m c' vs rfl ho1 (X, p, q) _ rfl (by simp) (by omega) hw1.size ?_; intro A2 c2 w3 ho3 hg3 hn3; have hw3 := below_own hw1 hg3 hw1.size (fun b hb => (ho1.lt hb).1); have hc3 := below_cell hw3 HCA.out; clear hca1)
              | (at_builtin; refine app_sl _ rfl (.tmp 34) (.tmp 39) rfl w.heap.size A2 (m + 1) c2 (vs ++ [(X, p, q)]) rfl ho3 (Y, p1, q1) _ rfl (by simp) (by omega) hw3.size ?_; intro A4 c4 w4 ho4 hg4 hn4))
            have hw4 := below_own hw3 hg4 hw3.size (fun b hb => (ho3.lt hb).1)
            clear ho1 hg3 hn3 ho3 hg4 hn4 hc3
            go_roundw
            case rel => exact ⟨k + 1, _, _, _, _, _, true, by omega, by go_num, rfl, rfl, ho4, HR2.out, hw4, HP.out⟩
            case measure => simp [intOf]; omega
    · obtain rfl : k = n := by omega
      rw [← hla.out] at hpt
      cases d with
      | true =>
        have HP := Lib.hid (putTo_end1 hpt)
        clear hpt
        go_wp2
        go_ret
        exact ⟨_, _, _, rfl, by rw [← HP.out]; exact (hr.keep hw).reads ho, hw⟩
      | false =>
        have HP := Lib.hid (putTo_end0 hpt)
        have HR := Lib.hid (hr.snoc (v := (X, p, q)) hp hq hx)
        clear hpt
        go_wp2_with (at_builtin; refine app_sl _ rfl (.tmp 43) (.tmp 45) rfl w.heap.size A' m c' vs rfl ho (X, p, q) _ rfl (by simp) (by omega) hw.size ?_; intro A2 c2 w3 ho3 hg3 hn3)
        have hw3 := below_own hw hg3 hw.size (fun b hb => (ho.lt hb).1)
        go_ret
        exact ⟨_, _, _, rfl, by rw [← HP.out]; exact (HR.out.keep hw3).reads ho3, hw3⟩
end Go.Proofs.YtemdjochphehjaaGreat
