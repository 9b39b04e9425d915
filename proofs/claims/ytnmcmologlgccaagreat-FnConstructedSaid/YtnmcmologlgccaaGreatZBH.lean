/- The law FnConstructed: for every input it returns true. No condition beyond those stated. -/
import Derived.Test.YtnmcmologlgccaaGreatZBD
import Derived.Test.YtnmcmologlgccaaGreatZBE
import Derived.Test.YtnmcmologlgccaaGreatZBG
set_option linter.unusedVariables false
set_option linter.unusedSimpArgs false
namespace Go.Proofs.YtnmcmologlgccaaGreat
open Go.RowKit

theorem consName_some {c : Nat} (h1 : 1 ≤ c) (h8 : c ≤ 8) : (consName (c : Int)).toList.isEmpty = false := by
  have : c = 1 ∨ c = 2 ∨ c = 3 ∨ c = 4 ∨ c = 5 ∨ c = 6 ∨ c = 7 ∨ c = 8 := by omega
  rcases this with rfl | rfl | rfl | rfl | rfl | rfl | rfl | rfl <;> decide +kernel
theorem construct_cases (v k l : Int) (w : World) (h64 : I64 v ∧ I64 k ∧ I64 l) :
    (∃ con code : Int, con = 0 ∧ code ≠ 0 ∧ Calls Tryz.prog 7 #[.int .i64 v, .int .i64 k, .int .i64 l] w (RetC3 w 0 [] con code)) ∨
    (∃ (V K L c : Nat) (bs : List (List Int)), v = V ∧ k = K ∧ l = L ∧ InR V K L ∧ Bal V bs K L ∧ fails V K L = [] ∧ 1 ≤ c ∧ c ≤ 8 ∧ Calls Tryz.prog 7 #[.int .i64 v, .int .i64 k, .int .i64 l] w (RetC3 w V bs c 0)) := by
  by_cases h : inRng v k l = false ∨ 32 < v
  · exact .inl ⟨0, 2, rfl, by decide, constructDesign_out v k l w h h64⟩
  · have hr : inRng v k l = true := by
      cases hh : inRng v k l with
      | true => rfl
      | false => exact absurd (.inl hh) h
    have h32 : v ≤ 32 := by
      by_cases h2 : 32 < v
      · exact absurd (.inr h2) h
      · omega
    obtain ⟨a1, a2, a3, a4, a5, a6⟩ := inRng_true hr
    obtain ⟨V, rfl⟩ : ∃ V : Nat, v = (V : Int) := ⟨v.toNat, by omega⟩
    obtain ⟨K, rfl⟩ : ∃ K : Nat, k = (K : Int) := ⟨k.toNat, by omega⟩
    obtain ⟨L, rfl⟩ : ∃ L : Nat, l = (L : Int) := ⟨l.toNat, by omega⟩
    have hin := inRng_of hr (by omega)
    have hc := constructDesign_in simpOk V K L w hin
    cases ho : conD V K L with
    | none =>
      rw [ho] at hc
      exact .inl ⟨0, 3, rfl, by decide, hc⟩
    | some x =>
      obtain ⟨c, bs⟩ := x
      rw [ho] at hc
      obtain ⟨b1, b2, b3, b4⟩ := con_ok hin ho
      exact .inr ⟨V, K, L, c, bs, rfl, rfl, rfl, hin, b1, b2, b3, b4, hc⟩
set_option maxRecDepth 100000 in
set_option maxHeartbeats 8000000 in
theorem law_Constructed_ok (A0 : Option Addr) (n0 c0 : Nat) (bs : List Int) (w : World) (ha : RS EByte w A0 n0 bs) (hn0 : n0 ≤ 1048576) :
    Calls Tryz.prog 3 #[.slice A0 n0 c0] w fun e w' => e = .returned (.bool true) ∧ Below w.heap.size w w' := by
  have hbl := b10Long_no A0 n0 c0 w hn0
  have hdr := drawConstruct_any A0 n0 c0 bs w ha (by omega)
  clear ha
  go_enter Tryz.func3, Tryz.ntmps3
  go_wp2_with fail
  refine hbl.mono ?_
  rintro e w' ⟨rfl, rfl⟩
  go_wp2_with fail
  refine hdr.mono ?_
  rintro e w1 ⟨v, k, l, rfl, ⟨v0, v1⟩, ⟨k0, k1⟩, ⟨l0, l1⟩, hb1⟩
  clear hbl hdr
  rcases construct_cases v k l w1 ⟨⟨by omega, by omega⟩, ⟨by omega, by omega⟩, ⟨by omega, by omega⟩⟩ with ⟨con, code, rfl, hcode, hc⟩ | ⟨V, K, L, c, ds, rfl, rfl, rfl, hin, hbal, hf, hc1, hc8, hc⟩
  · have t1 : (code != 0) = true := by simpa using hcode
    have t2 : (code == 0) = false := by simpa using hcode
    clear hcode
    go_wp2_with fail
    refine hc.mono ?_
    rintro e w2 ⟨A, n, cc, rfl, ho, hb2⟩
    have hn := OR.len ho
    simp at hn
    subst hn
    have Z := Blk.new w2 28 #[.int .i64 0, .slice A 0 cc]
    obtain ⟨z0, z1⟩ := Z.cells2
    have hw2 := (hb1.trans (hb2.mono hb1.size)).alloc (by have := hb1.size; have := hb2.size; omega) (.cells #[.int .i64 0, .slice A 0 cc] 28)
    clear hc ho hb1 hb2 Z
    go_wp2
    go_ret
    exact ⟨rfl, hw2⟩
  · obtain ⟨n1, n2, n3, n4, n5⟩ := hbal.nums hin
    have hne := consName_some hc1 hc8
    have HBN := Lib.hid (fun W => impl_BlockNumbers (V : Int) K L W)
    have e1 : bnB (V : Int) K L = (ds.length : Int) := by unfold bnB; rw [n1, n2, n3, n4]; rfl
    have e2 : bnR (V : Int) K L = ((ds.flatten.count 0 : Nat) : Int) := by unfold bnR; rw [n1, n2, n3, n5]; rfl
    have e3 : bnC (V : Int) K L = 0 := by unfold bnC; rw [n1, n2, n3]; rfl
    rw [e1, e2, e3] at HBN
    have HCO := Lib.hid (fun W => impl_ConditionsOf (V : Int) K L W)
    have e4 : condL (V : Int) K L = [] := by unfold condL; rw [n1, if_pos rfl, hf]
    have e5 : condC (V : Int) K L = 0 := by unfold condC; rw [n1]; rfl
    rw [e4, e5] at HCO
    have HCN := Lib.hid (fun W => impl_ConstructionName (c : Int) W)
    generalize consName (c : Int) = nm at *
    have HPA := Lib.hid (fun (A : Option Addr) (n cc : Nat) (W : World) (ha : RR W A n ds) => implPar_any V A n cc ds K (L : Int) W ha hbal)
    have hb128 := hbal.d.len
    have hin2 := hin
    obtain ⟨v3, v32, k2, kv, l1', l1000⟩ := hin2
    have hrb : ((ds.flatten.count 0 : Nat) : Int) ≤ 1000000 := by
      have := (nBR_bd hin).2.2
      omega
    clear hf hin n1 n2 n3 n4 n5 e1 e2 e3 e4 e5 hbal
    unfold parV at HPA
    generalize ds.flatten.count 0 = r at *
    go_wp2_with fail
    refine hc.mono ?_
    rintro e w2 ⟨A, n, cc, rfl, ho, hb2⟩
    have hz2 := hb2.size
    have hz1 := hb1.size
    have Z := Blk.new w2 28 #[.int .i64 (V : Int), .slice A n cc]
    obtain ⟨z0, z1⟩ := Z.cells2
    have hw2 := (hb1.trans (hb2.mono hb1.size)).alloc (by omega) (.cells #[.int .i64 (V : Int), .slice A n cc] 28)
    have hpa := HPA.out A n cc _ (ho.reads.keep (below_alloc w2 (.cells #[.int .i64 (V : Int), .slice A n cc] 28)))
    clear hc ho hb1 hb2 Z HPA
    go_wp2_with fail
    refine hpa.mono ?_
    rintro e w3 ⟨rfl, hb3⟩
    clear z0 z1 hpa
    generalize hls : ds.length = b at *
    have Z := Blk.new w3 32 #[.int .i64 (V : Int), .int .i64 (b : Int), .int .i64 (r : Int), .int .i64 (K : Int), .int .i64 (L : Int)]
    have hw3 := (hw2.trans (hb3.mono hw2.size)).alloc (by have := hw2.size; have := hb3.size; omega) (.cells #[.int .i64 (V : Int), .int .i64 (b : Int), .int .i64 (r : Int), .int .i64 (K : Int), .int .i64 (L : Int)] 32)
    clear hw2 hb3 hls
    go_wp2_with fail
    generalize w3.alloc (.cells #[.int .i64 (V : Int), .int .i64 (b : Int), .int .i64 (r : Int), .int .i64 (K : Int), .int .i64 (L : Int)] 32) = W3 at *
    refine (HBN.out _).mono ?_
    rintro e w4 ⟨rfl, hb4⟩
    have Z4 := Z.after hb4
    have hw4 := hw3.trans (hb4.mono hw3.size)
    clear HBN hb4 hw3 Z
    go_wp2_with fail
    refine (HCO.out _).mono ?_
    rintro e w5 ⟨A5, n5, c5, rfl, ho5, hb5⟩
    have h5 := ho5.len
    simp at h5
    subst h5
    have Z5 := Z4.after hb5
    have hw5 := hw4.trans (hb5.mono hw4.size)
    clear HCO hb5 hw4 Z4 ho5
    go_wp2_with fail
    refine (HCN.out _).mono ?_
    rintro e w6 ⟨rfl, hb6⟩
    have Z6 := Z5.after hb6
    have hw6 := hw5.trans (hb6.mono hw5.size)
    obtain ⟨z0, z1, z2, z3, z4⟩ := Z6.cells5
    clear HCN hb6 hw5 Z5 Z6
    go_wp2
    go_ret
    exact ⟨rfl, hw6⟩
theorem law_Constructed (A0 : Option Addr) (n0 c0 : Nat) (bs : List Int) (w : World) (ha : RS EByte w A0 n0 bs) (_hn : n0 ≤ c0) (_hc : c0 ≤ 9223372036854775807) :
    Calls Tryz.prog 3 #[.slice A0 n0 c0] w fun e w' => e = .returned (.bool true) ∧ Below w.heap.size w w' := by
  by_cases hn0 : n0 ≤ 1048576
  · exact law_Constructed_ok A0 n0 c0 bs w ha hn0
  · have hbl := b10Long_yes A0 n0 c0 w (by omega)
    clear ha
    go_enter Tryz.func3, Tryz.ntmps3
    go_wp2_with fail
    refine hbl.mono ?_
    rintro e w' ⟨rfl, rfl⟩
    go_wp2
    go_ret
    exact ⟨rfl, Below.refl _ _⟩
end Go.Proofs.YtnmcmologlgccaaGreat
