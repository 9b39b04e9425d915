/- slices.Grow of nil and slices.Concat, over numbers. No condition beyond those stated. -/
import Derived.Test.YtjhheemppoeecaaProg
import Derived.Test.YtjhheemppoeecaaOwnR
namespace Go.Proofs.Ytjhheemppoeecaa
open Go.RowKit

theorem int_infoG : (Try.prog.info? 2).map (fun i => (i.zero, i.size, i.bytes)) = some (some (.int .i64 0), 1, 8) := by kernel_rfl

section
variable {P : Program}
theorem run_append_make (w : World) (t ti ty e : TypeId) (i : TypeInfo) (z : Value) (ht : P.underlying t = some (.slice e)) (hti : P.underlying ti = some (.int .i64)) (hi : P.info? e = some i) (hz : i.zero = some z) (hs : i.size = 1) (hb : i.bytes = 8)
    (n : Nat) (h0 : 0 < n) (hn : n ≤ 2199023255552) :
    (Builtin.append_ #[t, ti] ty #[.slice none 0 0, .int .i64 (n : Int)]).run P w =
      .ok (.slice (some ⟨w.heap.size, 0, none⟩) n (grownCap w n 0 e)) (w.drew.alloc (.cells (Builtin.zeroCells z.cells n ++ Builtin.zeroCells z.cells (grownCap w n 0 e - n)) e)) := by
  have h1 : IntKind.i64.wrap (n : Int) = n := IntWalk.i64_in _ (by omega)
  have h2 : ¬ ((n : Int) < 0) := by omega
  have h3 : ¬ (281474976710656 < (n : Int) * 8) := by omega
  have h4 : n ≠ 0 := by omega
  have h63' : ¬ (9223372036854775807 < (n : Int)) := by omega
  have h48' : ¬ (281474976710656 < Builtin.nextslicecap n 0 * 8) := by rw [nextslicecap_zero h0]; omega
  simp [Builtin.append_, run_underlying ht, run_underlying hti, sizeOf, typeInfo, zeroValue, hi, hz, hs, hb, asInt, asIntOf, h1, h3, h4, h63', h48', Question.forced, run_firstCells_none, newRow, grownCap]
  intro h; omega
end

theorem grown_make (n : Nat) (h0 : 0 < n) (hn : n ≤ 1099511627776) : ∃ (f : World → Nat) (C : World → Array Value), ∀ wx : World,
    (Builtin.append_ #[30, 3] 30 #[.slice none 0 0, .int .i64 (n : Int)]).run Try.prog wx = .ok (.slice (some ⟨wx.heap.size, 0, none⟩) n (f wx)) (wx.drew.alloc (.cells (C wx) 2)) ∧
      n ≤ f wx ∧ f wx ≤ maxLen ∧ (C wx).size = f wx := by
  obtain ⟨i, hi, hz, hsize, hbytes⟩ := info_parts int_infoG
  refine ⟨fun wx => grownCap wx n 0 2, _, fun wx => ⟨run_append_make (P := Try.prog) wx 30 3 30 2 i (.int .i64 0) Try.underlying30 Try.underlying3 hi hz hsize hbytes n (by omega) (by omega), ?_, ?_, ?_⟩⟩
  · exact grownCap_ge wx n 0 _
  · exact grownCap_le_maxLen wx n 0 _ (by unfold maxLen; omega)
  · have := grownCap_ge wx n 0 2
    simp only [Array.size_append, size_zeroCells, Value.cells]
    simp
    omega

theorem wpList_make_grow (w : World) {ops : Array Oper} {rest : List Oper} {o : Oper} {a : Act} {Q : Exit → Act → World → Prop} (hgd : o.guard = none) (s x : Operand)
    (ho : o.op = .call { callee := .builtin .append, args := #[s, x], argTypes := #[30, 3] }) (hty : o.type = 30) (n : Nat) (h0 : 0 < n) (hn : n ≤ 1099511627776)
    (hs : a.eval s = .slice none 0 0) (hx : a.eval x = .int .i64 (n : Int))
    (h : ∀ c w', n ≤ c → c ≤ 9223372036854775807 → OI w' w.heap.size 2 (some ⟨w.heap.size, 0, none⟩) 0 c [] → Below w.heap.size w w' → wpList Try.prog ops Q rest (a.put o.dst (.slice (some ⟨w.heap.size, 0, none⟩) n c)) w') : wpList Try.prog ops Q (o :: rest) a w := by
  obtain ⟨f, C, hf⟩ := grown_make n h0 hn
  obtain ⟨hr, f1, f2, f3⟩ := hf w
  refine wpList_plain hgd fun K hK => ?_
  unfold Oper.wp execOp
  simp only [ho, hty, resolve, invoke, builtin, Sem.run_bind, Sem.run_pure, Result.andThen_ok, List.map_toArray, List.map_cons, List.map_nil, hs, hx, hr]
  refine hK _ _ (h (f w) _ f1 f2 ⟨⟨by simp [ints], .inr ⟨w.heap.size, f w, C w, rfl, Nat.le_refl _, heap_alloc_new w.drew _, by omega, f2, by rw [f3, Nat.mul_one], by simp [ints]⟩⟩, All64.nil_⟩ ?_)
  exact (Below.refl _ _).drew.alloc (Nat.le_refl _) _

set_option maxHeartbeats 400000 in
theorem grow_nil (n : Nat) (w : World) (hn : n ≤ 1099511627776) :
    Calls Try.prog 38 #[.slice none 0 0, .int .i64 n] w (RetI w 2 []) := by
  by_cases h0 : n = 0
  · subst h0
    go_enter Try.func38, Try.ntmps38
    go_wp2
    go_ret
    exact ⟨_, _, _, rfl, OI.nil_ _ _ _, Below.refl _ _⟩
  · have hn0 : 0 < n := by omega
    clear h0
    go_enter Try.func38, Try.ntmps38
    go_wp2_with (at_builtin; refine wpList_make_grow _ rfl (.tmp 20) (.tmp 21) rfl rfl n hn0 hn rfl rfl ?_; intro c w1 hc1 hc2 ho hb)
    go_wp2
    go_ret
    exact ⟨_, _, _, rfl, ho, hb⟩

def pre3 (xs ys zs : List Int) : Nat → List Int
  | 0 => []
  | 1 => [] ++ xs
  | 2 => [] ++ xs ++ ys
  | _ => [] ++ xs ++ ys ++ zs
theorem pre3_len (xs ys zs : List Int) (k : Nat) : (pre3 xs ys zs k).length ≤ xs.length + ys.length + zs.length := by
  unfold pre3
  split <;> simp <;> omega
theorem RI.cells {w : World} {A : Option Addr} {n : Nat} {zs : List Int} (h : RI w A n zs) : ∀ j u, (ints zs)[j]? = some u → ∃ ad, A = some ad ∧ w.cell? (ad.add j) = some u := fun j u hu => by
  rw [ints, List.getElem?_map, Option.map_eq_some_iff] at hu
  obtain ⟨z, hz, rfl⟩ := hu
  obtain ⟨ad, u, ha, hc, rfl, _⟩ := h.at_ j z hz
  exact ⟨ad, ha, hc⟩
theorem RI.all {w : World} {A : Option Addr} {n : Nat} {zs : List Int} (h : RI w A n zs) : All64 zs := fun z hz => by
  obtain ⟨i, hi, rfl⟩ := List.mem_iff_getElem.1 hz
  obtain ⟨ad, u, _, _, _, h⟩ := h.at_ i _ (List.getElem?_eq_getElem hi)
  exact h
set_option maxHeartbeats 1000000 in
/-- what three slices hold together -/
theorem concat3 (A1 A2 A3 : Option Addr) (n1 n2 n3 c1 c2 c3 : Nat) (xs ys zs : List Int) (g : Nat) (w : World)
    (hB : Blk w g 30 #[.slice A1 n1 c1, .slice A2 n2 c2, .slice A3 n3 c3]) (h1 : RI w A1 n1 xs) (h2 : RI w A2 n2 ys) (h3 : RI w A3 n3 zs) (b1 : n1 ≤ 1000000) (b2 : n2 ≤ 1000000) (b3 : n3 ≤ 1000000) :
    Calls Try.prog 23 #[.slice (some ⟨g, 0, none⟩) 3 3] w (RetI w 2 (xs ++ ys ++ zs)) := by
  obtain ⟨k1, k2, k3⟩ := hB.cells3
  go_enter Try.func23, Try.ntmps23
  go_wp2
  go_loop [3, 5, 11] (fun s _ i => ∃ k : Nat, k ≤ 3 ∧ i = .int .i64 k ∧ s = .int .i64 ((if 0 < k then (n1 : Int) else 0) + (if 1 < k then (n2 : Int) else 0) + (if 2 < k then (n3 : Int) else 0))) (fun _ _ i => 3 - (intOf i).toNat)
  case atStart => exact ⟨0, by omega, rfl, by simp⟩
  case round =>
    obtain ⟨k, hk, rfl, rfl⟩ := hrel
    have hk' : k = 0 ∨ k = 1 ∨ k = 2 ∨ k = 3 := by omega
    rcases hk' with rfl | rfl | rfl | rfl
    · go_wp2
      go_round
      case rel => exact ⟨1, by omega, rfl, by simp⟩
      case measure => simp [intOf]
    · go_wp2
      go_round
      case rel => exact ⟨2, by omega, rfl, by simp⟩
      case measure => simp [intOf]
    · go_wp2
      go_round
      case rel => exact ⟨3, by omega, rfl, by simp⟩
      case measure => simp [intOf]
    · have hn : ((((if 0 < 3 then (n1 : Int) else 0) + if 1 < 3 then (n2 : Int) else 0) + if 2 < 3 then (n3 : Int) else 0)) = ((n1 + n2 + n3 : Nat) : Int) := by simp
      rw [hn]
      clear hn
      have hg : g < w.heap.size := hB.lt
      go_wp2_with (go_at_call 38; refine (grow_nil (n1 + n2 + n3) _ (by omega)).mono ?_; rintro e w1 ⟨A, n, c, rfl, ho, hb⟩)
      have hB1 := hB.after hb
      obtain ⟨k1', k2', k3'⟩ := hB1.cells3
      have r1 := h1.keep hb
      have r2 := h2.keep hb
      have r3 := h3.keep hb
      obtain rfl : 0 = n := by simpa using ho.len
      clear r1 r2 r3 k1' k2' k3' k1 k2 k3
      go_loopw [6, 8, 27] (fun v _ i wr => ∃ (k : Nat) (A' : Option Addr) (k' c' : Nat), k ≤ 3 ∧ i = .int .i64 k ∧ v = .slice A' k' c' ∧ OI wr w.heap.size 2 A' k' c' (pre3 xs ys zs k) ∧ Below w.heap.size w wr) (fun _ _ i _ => 3 - (intOf i).toNat)
      case atStart => exact ⟨0, A, 0, c, by omega, rfl, rfl, ho, hb⟩
      case round =>
        obtain ⟨k, A', k', c', hk, rfl, rfl, ho', hw'⟩ := hrel
        obtain ⟨k1, k2, k3⟩ := (hB.after hw').cells3
        clear hB1 ho hb
        have hk9 : k' ≤ 3000000 := by have e := ho'.len; have e0 := pre3_len xs ys zs k; have e1 := h1.len; have e2 := h2.len; have e3 := h3.len; omega
        have hk' : k = 0 ∨ k = 1 ∨ k = 2 ∨ k = 3 := by omega
        rcases hk' with rfl | rfl | rfl | rfl
        · have ho0 : OI wr w.heap.size 2 A' k' c' ([]) := ho'
          go_wp2_with (at_builtin; refine wpList_app _ rfl (.tmp 31) (.tmp 32) 30 rfl 2 (.int .i64 0) 1 8 Try.underlying30 int_infoG rfl (by omega) (by omega) w.heap.size A' k' c' (ints ([])) rfl ho0.os A1 n1 c1 (ints xs) rfl (by simp [ints, h1.len]) (RI.cells (h1.keep hw')) (ints_oneCell _) (by omega) hw'.size ?_; intro A2 c2 w2 ho2 hg2 hn2)
          have hw2 := below_own hw' hg2 hw'.size (fun b hb => (ho0.os.lt hb).1)
          have ho3 := OI.cat ho2 ho0.all (RI.all h1)
          clear ho2 hg2 hn2 ho0 ho' hw'
          go_wp2
          go_roundw
          case rel => exact ⟨1, A2, k' + n1, c2, by omega, rfl, rfl, ho3, hw2⟩
          case measure => simp [intOf]
        · have ho0 : OI wr w.heap.size 2 A' k' c' ([] ++ xs) := ho'
          go_wp2_with (at_builtin; refine wpList_app _ rfl (.tmp 31) (.tmp 32) 30 rfl 2 (.int .i64 0) 1 8 Try.underlying30 int_infoG rfl (by omega) (by omega) w.heap.size A' k' c' (ints ([] ++ xs)) rfl ho0.os A2 n2 c2 (ints ys) rfl (by simp [ints, h2.len]) (RI.cells (h2.keep hw')) (ints_oneCell _) (by omega) hw'.size ?_; intro A2 c2 w2 ho2 hg2 hn2)
          have hw2 := below_own hw' hg2 hw'.size (fun b hb => (ho0.os.lt hb).1)
          have ho3 := OI.cat ho2 ho0.all (RI.all h2)
          clear ho2 hg2 hn2 ho0 ho' hw'
          go_wp2
          go_roundw
          case rel => exact ⟨2, A2, k' + n2, c2, by omega, rfl, rfl, ho3, hw2⟩
          case measure => simp [intOf]
        · have ho0 : OI wr w.heap.size 2 A' k' c' ([] ++ xs ++ ys) := ho'
          go_wp2_with (at_builtin; refine wpList_app _ rfl (.tmp 31) (.tmp 32) 30 rfl 2 (.int .i64 0) 1 8 Try.underlying30 int_infoG rfl (by omega) (by omega) w.heap.size A' k' c' (ints ([] ++ xs ++ ys)) rfl ho0.os A3 n3 c3 (ints zs) rfl (by simp [ints, h3.len]) (RI.cells (h3.keep hw')) (ints_oneCell _) (by omega) hw'.size ?_; intro A2 c2 w2 ho2 hg2 hn2)
          have hw2 := below_own hw' hg2 hw'.size (fun b hb => (ho0.os.lt hb).1)
          have ho3 := OI.cat ho2 ho0.all (RI.all h3)
          clear ho2 hg2 hn2 ho0 ho' hw'
          go_wp2
          go_roundw
          case rel => exact ⟨3, A2, k' + n3, c2, by omega, rfl, rfl, ho3, hw2⟩
          case measure => simp [intOf]
        · have ho0 : OI wr w.heap.size 2 A' k' c' (xs ++ ys ++ zs) := ho'
          go_wp2
          go_ret
          exact ⟨_, _, _, rfl, ho0, hw'⟩
end Go.Proofs.Ytjhheemppoeecaa
