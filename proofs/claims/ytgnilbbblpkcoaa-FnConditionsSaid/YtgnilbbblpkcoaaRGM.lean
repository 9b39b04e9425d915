/- Rising lists by putting, and lists in order by insertion: the reference's side. No condition beyond those stated. -/
import Derived.Test.YtgnilbbblpkcoaaRGG
set_option linter.unusedVariables false
set_option linter.unusedSimpArgs false
namespace Go.Proofs.Ytgnilbbblpkcoaa
open Go.RowKit
def PutTo {α : Type} (c : α → α → Int) (zs : List α) (x : α) (k : Nat) (L : List α) (d : Bool) : Prop :=
  (d = false ∧ L = zs.take k ∧ ∀ y, y ∈ zs.take k → c y x < 0) ∨ (d = true ∧ L ++ zs.drop k = putG c zs x)
section
variable {α : Type} {c : α → α → Int} {zs L : List α} {x : α} {k : Nat} {d : Bool}
theorem putTo_zero (c : α → α → Int) (zs : List α) (x : α) : PutTo c zs x 0 [] false := .inl ⟨rfl, by simp, fun y h => by simp at h⟩
theorem putTo_done {y : α} (h : PutTo c zs x k L true) (hk : zs[k]? = some y) : PutTo c zs x (k + 1) (L ++ [y]) true := by
  obtain ⟨hl, rfl⟩ := List.getElem?_eq_some_iff.1 hk
  rcases h with ⟨h, _⟩ | ⟨_, h⟩
  · cases h
  · refine .inr ⟨rfl, ?_⟩
    rw [List.append_assoc, List.singleton_append, ← List.drop_eq_getElem_cons hl]
    exact h
theorem putTo_less {y : α} (h : PutTo c zs x k L false) (hk : zs[k]? = some y) (hc : c y x < 0) : PutTo c zs x (k + 1) (L ++ [y]) false := by
  obtain ⟨hl, rfl⟩ := List.getElem?_eq_some_iff.1 hk
  rcases h with ⟨_, h1, h2⟩ | ⟨h, _⟩
  · refine .inl ⟨rfl, by rw [List.take_succ_eq_append_getElem hl, h1], fun z hz => ?_⟩
    rw [List.take_succ_eq_append_getElem hl] at hz
    rcases List.mem_append.1 hz with hz | hz
    · exact h2 z hz
    · rw [List.mem_singleton.1 hz]; exact hc
  · cases h
theorem putTo_at {y : α} (h : PutTo c zs x k L false) (hk : zs[k]? = some y) (hc : ¬ c y x < 0) : putG c zs x = L ++ ((if c y x = 0 then [] else [x]) ++ y :: zs.drop (k + 1)) := by
  obtain ⟨hl, rfl⟩ := List.getElem?_eq_some_iff.1 hk
  rcases h with ⟨_, h1, h2⟩ | ⟨h, _⟩
  · rw [putG_before (k := k) (by omega) h2, ← h1, List.drop_eq_getElem_cons hl, putG, if_neg hc]
    split <;> simp
  · cases h
theorem putTo_same {y : α} (h : PutTo c zs x k L false) (hk : zs[k]? = some y) (hc : c y x = 0) : PutTo c zs x (k + 1) (L ++ [y]) true := by
  refine .inr ⟨rfl, ?_⟩
  rw [putTo_at h hk (by omega), if_pos hc]
  simp
theorem putTo_more {y : α} (h : PutTo c zs x k L false) (hk : zs[k]? = some y) (hc : 0 < c y x) : PutTo c zs x (k + 1) (L ++ [x] ++ [y]) true := by
  refine .inr ⟨rfl, ?_⟩
  rw [putTo_at h hk (by omega), if_neg (by omega)]
  simp
theorem putTo_end1 (h : PutTo c zs x zs.length L true) : L = putG c zs x := by
  rcases h with ⟨h, _⟩ | ⟨_, h⟩
  · cases h
  · simpa using h
theorem putTo_end0 (h : PutTo c zs x zs.length L false) : L ++ [x] = putG c zs x := by
  rcases h with ⟨_, h1, h2⟩ | ⟨h, _⟩
  · rw [putG_before (k := zs.length) (Nat.le_refl _) h2, h1]
    simp [putG]
  · cases h
theorem putTo_len (h : PutTo c zs x k L d) (hk : k ≤ zs.length) : L.length ≤ k + 1 := by
  rcases h with ⟨_, h1, _⟩ | ⟨_, h⟩
  · rw [h1, List.length_take]; omega
  · have h2 := putG_len (c := c) zs x
    rw [← h] at h2
    simp at h2
    omega
end
set_option maxRecDepth 100000 in
set_option maxHeartbeats 2000000 in
theorem l00Put_any (A : Option Addr) (n c : Nat) (zs : List Int) (x : Int) (w : World) (ha : RI w A n zs) (hn : n ≤ 1099511627776) (hx : I64 x) :
    Calls Try.prog 94 #[.slice A n c, .int .i64 x] w (RetI w 2 (putG sgnI zs x)) := by
  have hla := Lib.hid ha.len
  have ho0 := OI.lit w w.heap.size 2 [] (Nat.le_refl _) (by simp) All64.nil_
  have hw0 := below_alloc w (.cells #[] 2)
  go_enter Try.func94, Try.ntmps94
  go_wp2
  go_loopw [5, 6, 7] (fun v f i wr => ∃ (k m : Nat) (A' : Option Addr) (c' : Nat) (L : List Int) (d : Bool), k ≤ n ∧ i = .int .i64 k ∧ v = .slice A' m c' ∧ f = .bool d ∧ OI wr w.heap.size 2 A' m c' L ∧ Below w.heap.size w wr ∧ PutTo sgnI zs x k L d) (fun _ _ i _ => n - (intOf i).toNat)
  case atStart => exact ⟨0, _, _, _, [], _, Nat.zero_le _, rfl, rfl, rfl, ho0, hw0, putTo_zero _ _ _⟩
  case round =>
    obtain ⟨k, m, A', c', L, d, hk, rfl, rfl, rfl, ho, hw, hp⟩ := hrel
    have hm : m ≤ k + 1 := by have := ho.len; have := putTo_len hp (by rw [hla.out]; exact hk); omega
    clear ho0 hw0
    by_cases hlt : k < n
    · obtain ⟨a, rfl, hca, hia⟩ := (ha.keep hw).get hlt
      have hz : zs[k]? = some (nth zs k) := nth_some (by rw [hla.out]; exact hlt)
      cases d with
      | true =>
        have HP := Lib.hid (putTo_done hp hz)
        clear hp hz
        go_wp2_with (at_builtin; refine app_int _ rfl (.tmp 35) (.tmp 40) rfl w.heap.size A' m c' L rfl ho (nth zs k) _ rfl (by simp) hia (by omega) hw.size ?_; intro A2 c2 w3 ho3 hg3 hn3)
        have hw3 := below_own hw hg3 hw.size (fun b hb => (ho.os.lt hb).1)
        clear ho hg3 hn3 hca
        go_roundw
        case rel => exact ⟨k + 1, _, _, _, _, true, by omega, by go_num, rfl, rfl, ho3, hw3, HP.out⟩
        case measure => simp [intOf]; omega
      | false =>
        by_cases h1 : nth zs k < x
        · have HP := Lib.hid (putTo_less hp hz (by rcases sgnI_cases (nth zs k) x with ⟨_, e⟩ | ⟨_, e⟩ | ⟨_, e⟩ <;> omega))
          clear hp hz
          go_wp2_with (at_builtin; refine app_int _ rfl (.tmp 35) (.tmp 40) rfl w.heap.size A' m c' L rfl ho (nth zs k) _ rfl (by simp) hia (by omega) hw.size ?_; intro A2 c2 w3 ho3 hg3 hn3)
          have hw3 := below_own hw hg3 hw.size (fun b hb => (ho.os.lt hb).1)
          clear ho hg3 hn3 hca
          go_roundw
          case rel => exact ⟨k + 1, _, _, _, _, false, by omega, by go_num, rfl, rfl, ho3, hw3, HP.out⟩
          case measure => simp [intOf]; omega
        · have h1' : x ≤ nth zs k := by omega
          by_cases h2 : nth zs k = x
          · have HP := Lib.hid (putTo_same hp hz (by rw [h2]; exact sgnI_ord.self x))
            have h3 : ¬ x < nth zs k := by omega
            clear hp hz h2
            go_wp2_with (at_builtin; refine app_int _ rfl (.tmp 35) (.tmp 40) rfl w.heap.size A' m c' L rfl ho (nth zs k) _ rfl (by simp) hia (by omega) hw.size ?_; intro A2 c2 w3 ho3 hg3 hn3)
            have hw3 := below_own hw hg3 hw.size (fun b hb => (ho.os.lt hb).1)
            clear ho hg3 hn3 hca
            go_roundw
            case rel => exact ⟨k + 1, _, _, _, _, true, by omega, by go_num, rfl, rfl, ho3, hw3, HP.out⟩
            case measure => simp [intOf]; omega
          · have h3 : x < nth zs k := by omega
            have HP := Lib.hid (putTo_more hp hz (by rcases sgnI_cases (nth zs k) x with ⟨_, e⟩ | ⟨_, e⟩ | ⟨_, e⟩ <;> omega))
            have hca0 := below_cell (below_alloc wr (.cells #[.int .i64 x] 2)) hca
            clear hp hz h2 h1 h1'
            go_wp2_with (first
              | (at_builtin; refine app_int _ rfl (.tmp 31) (.tmp 33) rfl w.heap.size A' m c' L rfl ho x _ rfl (by simp) hx (by omega) hw.size ?_; intro A2 c2 w3 ho3 hg3 hn3; have hw3 := below_own hw hg3 hw.size (fun b hb => (ho.os.lt hb).1); obtain ⟨a3, e3, hc3, _⟩ := (ha.keep hw3).get hlt; injection e3 with e3; subst e3; clear hca hca0)
              | (at_builtin; refine app_int _ rfl (.tmp 35) (.tmp 40) rfl w.heap.size A2 (m + 1) c2 (L ++ [x]) rfl ho3 (nth zs k) _ rfl (by simp) hia (by omega) hw3.size ?_; intro A4 c4 w4 ho4 hg4 hn4))
            have hw4 := below_own hw3 hg4 hw3.size (fun b hb => (ho3.os.lt hb).1)
            clear ho hg3 hn3 ho3 hg4 hn4 hc3
            go_roundw
            case rel => exact ⟨k + 1, _, _, _, _, true, by omega, by go_num, rfl, rfl, ho4, hw4, HP.out⟩
            case measure => simp [intOf]; omega
    · obtain rfl : k = n := by omega
      rw [← hla.out] at hp
      cases d with
      | true =>
        have HP := Lib.hid (putTo_end1 hp)
        clear hp
        go_wp2
        go_ret
        exact ⟨_, _, _, rfl, by rw [← HP.out]; exact ho, hw⟩
      | false =>
        have HP := Lib.hid (putTo_end0 hp)
        clear hp
        go_wp2_with (at_builtin; refine app_int _ rfl (.tmp 44) (.tmp 46) rfl w.heap.size A' m c' L rfl ho x _ rfl (by simp) hx (by omega) hw.size ?_; intro A2 c2 w3 ho3 hg3 hn3)
        have hw3 := below_own hw hg3 hw.size (fun b hb => (ho.os.lt hb).1)
        go_ret
        exact ⟨_, _, _, rfl, by rw [← HP.out]; exact ho3, hw3⟩
section
variable {w w' : World} {vs us : List Sl} {L M : List (List Int)}
end
section
variable {ops : Array Oper} {rest : List Oper} {o : Oper} {a : Act} {Q : Exit → Act → World → Prop}
theorem app_sl (w : World) (hgd : o.guard = none) (s x : Operand) (ho : o.op = .call { callee := .builtin .append, args := #[s, x], argTypes := #[24, 24] })
    (B : Nat) (A : Option Addr) (n c : Nat) (vs : List Sl) (hs : a.eval s = .slice A n c) (hown : OS w B 32 1 A n c (vs.map slv)) (v : Sl)
    (g : Nat) (hx : a.eval x = .slice (some ⟨g, 0, none⟩) 1 1) (hgx : g = w.heap.size) (hbig : n + 1 ≤ 2199023255552) (hB : B ≤ w.heap.size)
    (h : ∀ A' c' w', OS w' B 32 1 A' (n + 1) c' ((vs ++ [v]).map slv) → w.grownBy w' (blk A) → (blk A' = blk A ∨ ∃ k, blk A' = some k ∧ w.heap.size ≤ k) → wpList Try.prog ops Q rest (a.put o.dst (.slice A' (n + 1) c')) w') :
    wpList Try.prog ops Q (o :: rest) a (w.alloc (.cells #[.slice v.1 v.2.1 v.2.2] 32)) :=
  wpList_app1' w hgd s x 24 ho 32 (.slice none 0 0) 24 Try.underlying24 ints_info rfl (by omega) B A n c (vs.map slv) hs hown (.slice v.1 v.2.1 v.2.2) g hx hgx rfl hbig hB
    fun A' c' w' h1 h2 h3 => h A' c' w' (by simpa [slv] using h1) h2 h3
end
end Go.Proofs.Ytgnilbbblpkcoaa
