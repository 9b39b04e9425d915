/- Permutations by their rank: spec.l04Factorial, spec.l04Unrank. No condition beyond those stated. -/
import Derived.Test.YtncknfhfkmmhbaaGreatZAI
import Derived.Shelf.SlGeneric
import Derived.Shelf.SlicesE.Delete
import Derived.Ground.SlgnProg
import Derived.Test.YtncknfhfkmmhbaaGreatProg
import Derived.Test.YtncknfhfkmmhbaaGreatZAA
import Derived.Deep.RegionHeldLaw
set_option linter.unusedVariables false
set_option linter.unusedSimpArgs false
namespace Go.Proofs.YtncknfhfkmmhbaaGreat
open Go.RowKit

def factN : Nat → Nat
  | 0 => 1
  | n + 1 => factN n * (n + 1)
theorem factN_pos (n : Nat) : 0 < factN n := by
  induction n with
  | zero => decide
  | succ n ih => exact Nat.mul_pos ih (by omega)
theorem factN_le {n : Nat} (h : n ≤ 9) : factN n ≤ 362880 := by
  have : n = 0 ∨ n = 1 ∨ n = 2 ∨ n = 3 ∨ n = 4 ∨ n = 5 ∨ n = 6 ∨ n = 7 ∨ n = 8 ∨ n = 9 := by omega
  rcases this with rfl | rfl | rfl | rfl | rfl | rfl | rfl | rfl | rfl | rfl <;> decide
/-- the permutation of a rank: what is left, in order, is taken one by one -/
def unrP : Nat → List Int → Nat → List Int
  | 0, _, _ => []
  | k + 1, left, rank => nth left (rank / factN k) :: unrP k (left.take (rank / factN k) ++ left.drop (rank / factN k + 1)) (rank % factN k)
theorem RI.drop {w : World} {ad : Addr} {n : Nat} {zs : List Int} (h : RI w (some ad) n zs) {k : Nat} (hk : k ≤ n) : RI w (some (ad.add k)) (n - k) (zs.drop k) := by
  refine ⟨by rw [List.length_drop, h.len], fun j z hz => ?_⟩
  rw [List.getElem?_drop] at hz
  obtain ⟨ad', v, ha, hc, r⟩ := RS.at_ h (k + j) z hz
  cases ha
  refine ⟨ad.add k, v, rfl, ?_, r⟩
  have : (ad.add k).add j = ad.add (k + j) := by
    unfold Addr.add
    by_cases hk : k = 0
    · subst hk; simp
    · by_cases hj : j = 0
      · subst hj; simp
      · simp [hk, hj, Nat.add_assoc]
  rw [this]; exact hc
/-- two own slices apart -/
theorem apart_new {w : World} {B : Nat} {e : TypeId} {A A' : Option Addr} {n c : Nat} {zs : List Int} (h : OI w B e A n c zs) (hn : ∀ b, blk A' = some b → w.heap.size ≤ b) : blk A = none ∨ blk A ≠ blk A' := by
  cases hA : blk A with
  | none => exact .inl rfl
  | some a =>
    refine .inr fun e => ?_
    have := (h.os.lt hA).2
    have := hn a e.symm
    omega
theorem sep_sw {A A' : Option Addr} (h : blk A = none ∨ blk A ≠ blk A') : blk A' = none ∨ blk A' ≠ blk A := by
  rcases h with h | h
  · by_cases k : blk A' = none
    · exact .inl k
    · exact .inr (by rw [h]; exact k)
  · exact .inr h.symm
/-- what an append hands back lies apart from another slice -/
theorem sep_app {w : World} {B : Nat} {e : TypeId} {A A' C : Option Addr} {n c : Nat} {zs : List Int} (h : OI w B e C n c zs) (hs : blk C = none ∨ blk C ≠ blk A) (hf : blk A' = blk A ∨ ∃ k, blk A' = some k ∧ w.heap.size ≤ k) : blk C = none ∨ blk C ≠ blk A' := by
  rcases hf with hf | ⟨k, hf, hk⟩
  · rw [hf]; exact hs
  · exact apart_new h (fun b hb => by rw [hf] at hb; injection hb with hb; omega)
def lenV (v : Value) : Nat := match v with | .slice _ n _ => n | _ => 0
/-- the state of the loop -/
structure Unr (w wr : World) (AL : Option Addr) (nl cl : Nat) (L : List Int) (AO : Option Addr) (no co : Nat) (O : List Int) : Prop where
  l : OI wr w.heap.size 2 AL nl cl L
  o : OI wr w.heap.size 2 AO no co O
  sep : blk AL = none ∨ blk AL ≠ blk AO
  b : Below w.heap.size w wr
end Go.Proofs.YtncknfhfkmmhbaaGreat
/-
  DERIVED: THE SHELF's CONTRACTS AT THIS DUMP, IN PLAIN WORDS (tools/lay-plain.mjs out of 'YtncknfhfkmmhbaaGreatLay6X.lean', which tools/lay-shelf.mjs wrote): THE SAME DECLARATIONS UNDER THE SAME NAMES: 'import', 'namespace', 'open', 'def', 'theorem' AND NOTHING ELSE: no command of the shelf's: FOR A HAND-IN. Each laying: the table of numbers ('.._ren') and one theorem, a field a fact of the dump's own or the kernel's comparison; each contract: ONE APPLICATION.
-/
namespace Go.Proofs
open Go.Shelf
def Tryz.delL_ren : Go.Shelf.Ren := ⟨fun | 45 => 50 | n => n, fun | 22 => 33 | 23 => 2 | 3 => 3 | 4 => 4 | 0 => 0 | n => n, fun | n => n⟩
theorem Tryz.delL : Go.Proofs.SlLaysE.n45 Tryz.prog Tryz.delL_ren := {
  mixed := by kernel_rfl
  f45 := ⟨Tryz.f50.name, by decide, Tryz.func50.trans (congrArg some (by kernel_rfl))⟩
  t0 := Tryz.underlying0
  a0 := Tryz.isAgg0
  z0 := Tryz.sizeOf0
  v0 := Tryz.zeroValue0
  t3 := Tryz.underlying3
  a3 := Tryz.isAgg3
  z3 := Tryz.sizeOf3
  v3 := Tryz.zeroValue3
  t4 := Tryz.underlying4
  a4 := Tryz.isAgg4
  z4 := Tryz.sizeOf4
  v4 := Tryz.zeroValue4
  t22 := Tryz.underlying33
  a22 := Tryz.isAgg33
  z22 := Tryz.sizeOf33
  v22 := Tryz.zeroValue33
  a23 := Tryz.isAgg2
  z23 := Tryz.sizeOf2 }
end Go.Proofs
/- A cell that is stored: its block has grown, the others are as they were. No condition beyond those stated. -/
namespace Go.Proofs.YtncknfhfkmmhbaaGreat
open Go.RowKit

theorem grown_set {w : World} {g p : Nat} {u : Value} : w.grownBy (w.setCell ⟨g, p, none⟩ u) (some g) :=
  ⟨rfl, rfl, rfl, by simp [World.setCell], fun k _ hk => Below.heap_setCell _ _ _ _ (fun e => hk (by rw [e]))⟩
theorem OI.of_os {w : World} {B : Nat} {e : TypeId} {A : Option Addr} {n c k : Nat} {zs : List Int} (h : OS w B e 1 A n c ((ints zs).take k)) (ha : All64 zs) : OI w B e A n c (zs.take k) :=
  ⟨by rwa [show (ints zs).take k = ints (zs.take k) by simp [ints]] at h, ha.take k⟩
theorem OS.typed' {w : World} {B : Nat} {e t : TypeId} {size : Nat} {A : Option Addr} {n c : Nat} {xs : List Value} {g : Nat} {cs : Array Value} (h : OS w B e size A n c xs) (k : Blk w g t cs) (hne : e ≠ t) : some g ≠ blk A := by
  rcases h.cases with ⟨rfl, _⟩ | ⟨g', cur, rfl, _, hg, _⟩
  · simp [blk]
  · intro h1
    have : g = g' := by simpa [blk] using h1
    subst this
    unfold Blk at k
    rw [k] at hg
    injection hg with hg
    injection hg with _ h2
    exact hne h2.symm
/-- nothing but zeros -/
def allZero (cs : List Int) : Prop := ∀ k, k < cs.length → nth cs k = 0
end Go.Proofs.YtncknfhfkmmhbaaGreat
/- All permutations of a degree: the program's side. No condition beyond those stated. -/
namespace Go.Proofs.YtncknfhfkmmhbaaGreat
open Go.RowKit Go.Shelf Go.Sort

set_option maxHeartbeats 800000 in
theorem factorial_any (n : Nat) (w : World) (hn : n ≤ 8) :
    Calls Tryz.prog 18 #[.int .i64 n] w (fun e w' => e = .returned (.int .i64 (factN n : Nat)) ∧ w = w') := by
  go_enter Tryz.func18, Tryz.ntmps18
  go_wp2
  go_loop [3, 4] (fun o i => ∃ k : Nat, k + 1 ≤ max n 1 ∧ i = .int .i64 ((k : Int) + 2) ∧ o = .int .i64 (factN (k + 1) : Nat)) (fun _ i => n + 2 - (intOf i).toNat)
  case atStart => exact ⟨0, by omega, by go_num, rfl⟩
  case round =>
    obtain ⟨k, hk, rfl, rfl⟩ := hrel
    by_cases hlt : k + 2 ≤ n
    · have HM := Lib.hid (show ((factN (k + 1) : Nat) : Int) * ((k : Int) + 2) = ((factN (k + 2) : Nat) : Int) by rw [show factN (k + 2) = factN (k + 1) * (k + 2) from rfl]; simp)
      have hle := factN_le (n := k + 2) (by omega)
      have hle1 := factN_le (n := k + 1) (by omega)
      have hw : IntKind.i64.wrap (((factN (k + 1) : Nat) : Int) * ((k : Int) + 2)) = ((factN (k + 2) : Nat) : Int) := by rw [HM.out]; exact IntWalk.i64_in _ (by omega)
      have hk2 : (k : Int) + 2 ≤ n := by omega
      obtain ⟨f2, hf2⟩ : ∃ f2, f2 = factN (k + 2) := ⟨_, rfl⟩
      rw [← hf2] at hw hle
      have HF2 := Lib.hid hf2
      clear hf2 HM hle1
      generalize factN (k + 1) = f1 at *
      go_wp2
      go_round
      case rel => exact ⟨k + 1, by omega, by go_num, by rw [HF2.out]⟩
      case measure => simp [intOf]; omega
    · have HE := Lib.hid (show factN (k + 1) = factN n by
        by_cases h1 : 1 ≤ n
        · rw [show k + 1 = n by omega]
        · rw [show n = 0 by omega, show k = 0 by omega]; rfl)
      have hk2 : ¬ (k : Int) + 2 ≤ n := by omega
      rw [HE.out]
      go_wp2
      go_ret
      exact ⟨rfl, rfl⟩
section
variable {α : Type} [Inhabited α] {enc : α → Value} {w : World} {B : Nat} {e : TypeId} {g n c q : Nat} {l ts : List α}
theorem holds_row (h : OS w B e 1 (some ⟨g, 0, none⟩) n c (l.map enc)) : Holds enc w g 0 l.toArray := fun j hj => by
  have hj' : j < l.length := by simpa using hj
  obtain ⟨g', e1, hc, hf⟩ := h.cell (j := j) (u := enc l[j]) (by simp [hj'])
  injection e1 with e1
  injection e1 with e1
  subst e1
  rw [Nat.zero_add]
  exact ⟨by rw [hc]; simp [hj'], hf⟩
theorem grownBy_put (d : Array α) : w.grownBy (putRow enc (Sort.ahead w q) g 0 d) (some g) := by
  refine ⟨rfl, rfl, rfl, by simp [putRow, mapBlock, Sort.ahead], fun k hk hne => ?_⟩
  have : g ≠ k := fun e => hne (by rw [e])
  simp [putRow, mapBlock, Sort.ahead, Array.getElem?_modify, this]
theorem os_put {k : Nat} (h : OS w B e 1 (some ⟨g, 0, none⟩) n c (l.map enc)) (hl : ts.length = l.length) (hk : k ≤ n) : OS (putRow enc (Sort.ahead w q) g 0 ts.toArray) B e 1 (some ⟨g, 0, none⟩) k c ((ts.take k).map enc) := by
  have hlen := h.len
  simp at hlen
  rcases h.cases with ⟨h0, _⟩ | ⟨g', cur, h0, hB, hg, hnc, hc, hs, ht⟩
  · cases h0
  · injection h0 with h0
    injection h0 with h0
    subst h0
    have hgl : g < w.heap.size := (Array.getElem?_eq_some_iff.1 hg).1
    have hblk : (putRow enc (Sort.ahead w q) g 0 ts.toArray).heap[g]? = some (.cells (putCells enc 0 ts.toArray cur) e (0, 0)) := by
      simp [putRow, mapBlock, Sort.ahead, Array.getElem?_modify, hg, onCells]
    refine ⟨by simp; omega, .inr ⟨g, c, _, rfl, hB, hblk, by omega, hc, by simp [putCells, hs], ?_⟩⟩
    rw [Nat.mul_one] at hs ⊢
    apply List.ext_getElem?
    intro j
    by_cases hj : j < k
    · rw [List.getElem?_take_of_lt hj, Array.getElem?_toList]
      simp [putCells, show j < ts.length by omega, show j < cur.size by omega, hj]
    · rw [List.getElem?_take_eq_none (by omega), List.getElem?_eq_none (by simp; omega)]
end
theorem delete_any (B g n c i : Nat) (zs : List Int) (w : World) (ho : OI w B 2 (some ⟨g, 0, none⟩) n c zs) (hi : i < n) :
    Calls Tryz.prog 50 #[.slice (some ⟨g, 0, none⟩) n c, .int .i64 i, .int .i64 (i + 1 : Nat)] w (fun e w' => e = .returned (.slice (some ⟨g, 0, none⟩) (n - 1) c) ∧ OI w' B 2 (some ⟨g, 0, none⟩) (n - 1) c (zs.take i ++ zs.drop (i + 1)) ∧ w.grownBy w' (some g)) := by
  have hl := ho.len
  have hos : OS w B 2 1 (some ⟨g, 0, none⟩) n c (zs.map (Value.int .i64)) := ho.os
  have hcap := ho.os.cap
  obtain ⟨i0, hi0, h1, h2, h3⟩ := info_parts int_info
  have hsz : zs.toArray.size = n := by simpa using hl
  have hcall := AnyE.slices_Delete Tryz.delL (Value.int .i64) (fun x => rfl) 0 (fun w => by kernel_rfl) i0 hi0 h2 g 0 c i (i + 1) zs.toArray w (holds_row hos) (by rw [hsz]; exact hcap.1) hcap.2 (by omega) (by rw [hsz]; omega)
  rw [hsz] at hcall
  refine hcall.mono ?_
  rintro e w' ⟨rfl, q, rfl⟩
  have e1 : n - (i + 1 - i) = n - 1 := by omega
  rw [e1]
  refine ⟨rfl, ?_, grownBy_put _⟩
  have hlen : (zs.take i ++ zs.drop (i + 1) ++ List.replicate (i + 1 - i) (0 : Int)).length = zs.length := by simp; omega
  have hos2 := os_put (q := q) (k := n - 1) hos hlen (by omega)
  have e2 : (zs.take i ++ zs.drop (i + 1) ++ List.replicate (i + 1 - i) (0 : Int)).take (n - 1) = zs.take i ++ zs.drop (i + 1) := List.take_left' (by simp; omega)
  rw [e2] at hos2
  refine ⟨hos2, fun z hz => ?_⟩
  rcases List.mem_append.1 hz with h | h
  · exact ho.all z (List.mem_of_mem_take h)
  · exact ho.all z (List.mem_of_mem_drop h)
theorem iota_nodup_len (n : Nat) : (iotaP n).length = n := iotaP_len n
set_option maxRecDepth 100000 in
set_option maxHeartbeats 2000000 in
theorem unrankPermutation_any (n rank : Nat) (w : World) (hn1 : 1 ≤ n) (hn : n ≤ 8) (hr : rank < factN n) :
    Calls Tryz.prog 31 #[.int .i64 n, .int .i64 rank] w (RetIC w 2 (unrP n (iotaP n) rank) 0) := by
  have hfp := factN_pos n
  have hfl := factN_le (n := n) (by omega)
  have i1 : inB (n : Int) 0 12 = true := inB_mk (by omega)
  have i2 : inB (rank : Int) 0 ((factN n : Nat) - 1 : Int) = true := inB_mk (by omega)
  have hfc := fun W => factorial_any n W (by omega)
  obtain ⟨res, hres⟩ : ∃ res, res = unrP n (iotaP n) rank := ⟨_, rfl⟩
  rw [← hres]
  have HRES := Lib.hid hres
  clear hres
  obtain ⟨FN, hFN⟩ : ∃ F, F = factN n := ⟨_, rfl⟩
  rw [← hFN] at hfp hfl i2 hfc hr
  have HFN := Lib.hid hFN
  clear hFN
  go_enter Tryz.func31, Tryz.ntmps31
  go_wp2_with (first | (go_at_call 14; refine (within_any _ _ _ _).mono ?_; rintro e w' ⟨rfl, rfl⟩; first | rw [i1] | rw [i2]) | (go_at_call 18; refine (hfc _).mono ?_; rintro e w' ⟨rfl, rfl⟩))
  refine (identity_any n w (by omega)).mono ?_
  rintro e w1 ⟨AL, nl, cl, rfl, ho, hb⟩
  obtain rfl : nl = n := by rw [← ho.len, iotaP_len]
  clear i1 i2 hfc hfp
  have U : Unr w w1 AL nl cl (iotaP nl) none 0 0 [] := ⟨ho, OI.nil_ _ _ _, .inr (by
    obtain ⟨g, rfl, -⟩ := ho.cell (k := 0) (by omega)
    simp [blk]), hb⟩
  have HU := Lib.hid (show ([] : List Int) ++ unrP nl (iotaP nl) rank = res from by rw [HRES.out]; rfl)
  have hr0 : rank < factN nl := by have := HFN.out; omega
  clear ho hb hr
  go_wp2
  go_loopw [1, 6, 7, 8] (fun rv lv ov kv wr => ∃ (k r : Nat) (AL : Option Addr) (cl : Nat) (L : List Int) (AO : Option Addr) (no co : Nat) (O : List Int), rv = .int .i64 r ∧ lv = .slice AL k cl ∧ ov = .slice AO no co ∧ kv = .int .i64 ((k : Int) - 1) ∧ Unr w wr AL k cl L AO no co O ∧ Hid (O ++ unrP k L r = res) ∧ r < factN k ∧ no + k = nl) (fun _ _ _ kv _ => (intOf kv + 1).toNat)
  case atStart => exact ⟨nl, rank, AL, cl, iotaP nl, none, 0, 0, [], rfl, rfl, rfl, by go_num, U, HU, hr0, by omega⟩
  case round =>
    clear U HU hr0
    obtain ⟨k, r, AL, cl, L, AO, no, co, O, rfl, rfl, rfl, rfl, U, HO, hr, hno⟩ := hrel
    by_cases hk0 : 0 < k
    · obtain ⟨j, rfl⟩ : ∃ j, k = j + 1 := ⟨k - 1, by omega⟩
      have hkj : ((j + 1 : Nat) : Int) - 1 = (j : Int) := by omega
      have hfc := fun W => factorial_any j W (by omega)
      have hfp := factN_pos j
      have hfl := factN_le (n := j) (by omega)
      have hrl := factN_le (n := j + 1) (by omega)
      have hat : r / factN j < j + 1 := Nat.div_lt_of_lt_mul hr
      have hrm : r % factN j < factN j := Nat.mod_lt _ hfp
      have hstep : O ++ [nth L (r / factN j)] ++ unrP j (L.take (r / factN j) ++ L.drop (r / factN j + 1)) (r % factN j) = res := by
        rw [← HO.out, List.append_assoc]; rfl
      have q1 : (r : Int).tdiv ((factN j : Nat) : Int) = ((r / factN j : Nat) : Int) := by rw [Int.tdiv_eq_ediv_of_nonneg (by omega)]; rfl
      have q2 : (r : Int).tmod ((factN j : Nat) : Int) = ((r % factN j : Nat) : Int) := by rw [Int.tmod_eq_emod_of_nonneg (by omega)]; rfl
      have q3 : (r : Int) / ((factN j : Nat) : Int) = ((r / factN j : Nat) : Int) := rfl
      have q4 : (r : Int) % ((factN j : Nat) : Int) = ((r % factN j : Nat) : Int) := rfl
      have hrF : r < 362881 := by omega
      obtain ⟨F, hF⟩ : ∃ F, F = factN j := ⟨_, rfl⟩
      have HF := Lib.hid hF
      rw [← hF] at hfc hfp hfl hat hrm hstep q1 q2 q3 q4
      clear hF hr hrl
      generalize r / F = a at *
      generalize r % F = b at *
      have HS := Lib.hid hstep
      clear hstep HO
      have hfF : ¬ F = 0 := by omega
      obtain ⟨g, rfl, cv, -, iv⟩ := U.l.cell hat
      have hsz := U.b.size
      have hao := U.o
      have hal := U.l
      have hsep := Lib.hid U.sep
      have hbw := U.b
      generalize hv : nth L a = v at *
      clear hv U
      have ha9 : a ≤ 8 := by omega
      rw [hkj]
      go_wp2_with (first
        | (go_at_call 18; refine (hfc _).mono ?_; rintro e w2 ⟨rfl, rfl⟩)
        | (at_builtin; refine app_int _ rfl (.tmp 37) (.tmp 42) rfl w.heap.size AO no co O rfl hao v wr.heap.size rfl rfl iv (by omega) hsz ?_; intro A4 c4 w4 ho4 hg4 hf4; have hl4 := hal.kept hg4 hsep.out; have hs4 := Lib.hid (sep_app hal hsep.out hf4); have hb4 := below_own hbw hg4 hsz (fun q hq => (hao.os.lt hq).1)))
      have hdl := delete_any w.heap.size g (j + 1) cl a L w4 hl4 hat
      rw [show ((a + 1 : Nat) : Int) = (a : Int) + 1 from by omega] at hdl
      refine hdl.mono ?_
      rintro e w5 ⟨rfl, hl5, hg5⟩
      have ho5 := ho4.kept hg5 (sep_sw hs4.out)
      have hb5 := below_own (A := some ⟨g, 0, none⟩) hb4 hg5 hb4.size (fun q hq => (hl4.os.lt hq).1)
      go_wp2
      go_roundw
      case rel => exact ⟨j, b, _, cl, _, A4, no + 1, c4, O ++ [v], rfl, rfl, rfl, by go_num, ⟨hl5, ho5, hs4.out, hb5⟩, HS, by rw [← HF.out]; exact hrm, by omega⟩
      case measure => simp [intOf]
    · obtain rfl : k = 0 := by omega
      have HE := Lib.hid (show O = res by rw [← HO.out]; simp [unrP])
      obtain rfl : no = nl := by omega
      go_wp2
      go_ret2
      exact ⟨AO, no, co, rfl, by rw [← HE.out]; exact U.o, U.b⟩
end Go.Proofs.YtncknfhfkmmhbaaGreat
