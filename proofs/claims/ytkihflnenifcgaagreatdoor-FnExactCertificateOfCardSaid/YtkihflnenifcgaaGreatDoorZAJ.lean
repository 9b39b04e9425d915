/- Texts of lists: the program's side. No condition beyond those stated. -/
import Derived.Test.YtkihflnenifcgaaGreatDoorZAH
import Derived.Test.YtkihflnenifcgaaGreatDoorZAI
set_option linter.unusedVariables false
set_option linter.unusedSimpArgs false
namespace Go.Proofs.YtkihflnenifcgaaGreatDoor
open Go.RowKit Go.Shelf

theorem str_info : (Tryz.prog.info? 9).map (fun i => (i.zero, i.size, i.bytes)) = some (some (.string ⟨#[]⟩), 1, 16) := by kernel_rfl
section
variable {ops : Array Oper} {rest : List Oper} {o : Oper} {a : Act} {Q : Exit → Act → World → Prop}
/-- one string more -/
theorem app_str (w : World) (hgd : o.guard = none) (s x : Operand) (ho : o.op = .call { callee := .builtin .append, args := #[s, x], argTypes := #[66, 66] })
    (B : Nat) (A : Option Addr) (n c : Nat) (ss : List ByteArray) (hs : a.eval s = .slice A n c) (hown : OS w B 9 1 A n c (strV ss)) (u : ByteArray) (g : Nat) (hx : a.eval x = .slice (some ⟨g, 0, none⟩) 1 1) (hgx : g = w.heap.size)
    (hbig : n + 1 ≤ 2199023255552) (hB : B ≤ w.heap.size)
    (h : ∀ A' c' w', OS w' B 9 1 A' (n + 1) c' (strV (ss ++ [u])) → w.grownBy w' (blk A) → wpList Tryz.prog ops Q rest (a.put o.dst (.slice A' (n + 1) c')) w') :
    wpList Tryz.prog ops Q (o :: rest) a (w.alloc (.cells #[.string u] 9)) :=
  wpList_app1' w hgd s x 66 ho 9 (.string ⟨#[]⟩) 16 Tryz.underlying66 str_info rfl (by omega) B A n c (strV ss) hs hown (.string u) g hx hgx rfl hbig hB
    fun A' c' w' h1 h2 _ => h A' c' w' (by simpa [strV] using h1) h2
end
theorem nth_take_map (zs : List Int) {k : Nat} (h : k < zs.length) : (zs.take k).map dcS ++ [dcS (nth zs k)] = (zs.take (k + 1)).map dcS := by
  rw [List.take_succ_eq_append_getElem h, List.map_append, ← nth_get h]
  rfl
def farB (x : Int) : Bool := !inB x (-999999999) 999999999
set_option maxHeartbeats 1000000 in
theorem listText1_any (x : Int) (w : World) : Calls Tryz.prog 56 #[.int .i64 x] w fun e w' => e = .returned (.bool (farB x)) ∧ w = w' := by
  go_enter Tryz.func56, Tryz.ntmps56
  go_wp2_with (go_at_call 57; refine (within_any _ _ _ _).mono ?_; rintro e w' ⟨rfl, rfl⟩)
  go_ret
  exact ⟨rfl, rfl⟩
set_option maxRecDepth 100000 in
set_option maxHeartbeats 400000 in
theorem listText_any (A : Option Addr) (n c : Nat) (zs : List Int) (w : World) (ha : RI w A n zs) (hn : n ≤ 64) (hz : ∀ k, k < n → 0 ≤ nth zs k ∧ nth zs k ≤ 63) :
    Calls Tryz.prog 29 #[.slice A n c] w fun e w' => e = .returned (.string (listT zs)) ∧ Below w.heap.size w w' := by
  have hla := ha.len
  have eg : ∀ (args : Array Value) (w : World), (callFunc 56 args).run Tryz.prog w = .ok (.enter 56 args) w := fun _ _ => by kernel_rfl
  have hask : AskIq 56 #[] farB w := fun x _ => listText1_any x w
  have hcf := containsFuncIq _ _ eg farB A n c zs w ha (by omega) hask
  have hany : zs.any farB = false := by
    rw [List.any_eq_false]
    intro x hx
    obtain ⟨k, hk, rfl⟩ := mem_nth hx
    rw [farB, inB_mk (by have := hz k (by omega); omega)]
    simp
  rw [hany] at hcf
  by_cases h0 : n = 0
  · subst h0
    have H := Lib.hid (show listT zs = minus by unfold listT; rw [if_pos (List.length_eq_zero_iff.1 hla)])
    clear hany ha
    go_enter Tryz.func29, Tryz.ntmps29
    go_wp2_with (go_at_call 55; refine hcf.mono ?_; rintro e w1 ⟨rfl, rfl⟩)
    go_ret
    exact ⟨by rw [H.out]; rfl, Below.refl _ _⟩
  · have H := Lib.hid (show listT zs = joinS (zs.map dcS) comma by unfold listT; rw [if_neg (fun e => h0 (by rw [← hla, e]; rfl))])
    have hne : ((n : Int) == 0) = false := by simp; omega
    have hsz : (Lib.join (bts (zs.map dcS)) comma.data.toList).length ≤ 140737488355328 := by
      have := join_size comma.data.toList 2 (bts (zs.map dcS)) (fun x hx => by
        obtain ⟨b, hb, rfl⟩ := List.mem_map.1 hx
        obtain ⟨z, hz2, rfl⟩ := List.mem_map.1 hb
        obtain ⟨k, hk, rfl⟩ := mem_nth hz2
        have := hz k (by omega)
        show ((Lib.decDigits (nth zs k).toNat).toArray).toList.length ≤ 2
        exact dc_len _ (by omega))
      have e1 : (bts (zs.map dcS)).length = n := by simp [bts, hla]
      have e2 : comma.data.toList.length = 1 := rfl
      rw [e1, e2] at this
      omega
    have HSZ := Lib.hid hsz
    have HZ := Lib.hid hz
    have HA := Lib.hid ha
    clear hany h0 hsz hz ha
    go_enter Tryz.func29, Tryz.ntmps29
    go_wp2_with (go_at_call 55; refine hcf.mono ?_; rintro e w1 ⟨rfl, rfl⟩)
    clear hcf
    go_loopw [3, 18] (fun r i wr => ∃ (k : Nat) (WA : Option Addr) (wc : Nat), k ≤ n ∧ i = .int .i64 k ∧ r = .slice WA k wc ∧ OS wr w.heap.size 9 1 WA k wc (strV ((zs.take k).map dcS)) ∧ Below w.heap.size w wr) (fun _ i _ => n - (intOf i).toNat)
    case atStart => exact ⟨0, none, 0, Nat.zero_le _, rfl, rfl, OS.nil_ _ _ _ 1, Below.refl _ _⟩
    case round =>
      obtain ⟨k, WA, wc, hk, rfl, rfl, ho, hb⟩ := hrel
      by_cases hlt : k < n
      · obtain ⟨ad, rfl, hcz, -⟩ := (HA.out.keep hb).get hlt
        have hzk := HZ.out k hlt
        have HST := Lib.hid (nth_take_map zs (k := k) (by omega))
        have HO := Lib.hid ho
        have HB := Lib.hid hb
        have hbs := hb.size
        clear ho hb
        generalize nth zs k = z at *
        have hdc := decimal_any z hzk.1 (by omega)
        go_wp2_with (first | (go_at_call 28; refine (hdc _).mono ?_; rintro e w2 ⟨rfl, rfl⟩) | (at_builtin; refine app_str _ rfl (.tmp 22) (.tmp 25) rfl w.heap.size WA k wc _ rfl HO.out (dcS z) w2.heap.size rfl rfl (by omega) hbs ?_; intro A4 c4 w4 ho4 hg4; have hb4 := below_own HB.out hg4 hbs (fun q hq => (HO.out.lt hq).1)))
        go_roundw
        case rel => exact ⟨k + 1, A4, c4, by omega, by go_num, rfl, HST.out ▸ ho4, hb4⟩
        case measure => simp [intOf]; omega
      · obtain rfl : k = n := by omega
        rw [List.take_of_length_le (by omega)] at ho
        have hj := join_any w.heap.size WA k wc _ comma wr ho (by omega) HSZ.out
        have HB := Lib.hid hb
        clear ho hb
        go_wp2_with (go_at_call 30; refine hj.mono ?_; rintro e w5 ⟨rfl, hb5⟩)
        go_ret
        exact ⟨by rw [H.out]; rfl, HB.out.trans (hb5.mono HB.out.size)⟩
end Go.Proofs.YtkihflnenifcgaaGreatDoor
